/- Several texts of one proof in one file: Occurrences, equations, contributions and rules: how they lie in memory, their sizes, comparisons and copies. Conditions: each theorem names its own. -/
import Derived.Test.YthlhhnnlbpecnaaGreatRows
import Derived.Test.YthlhhnnlbpecnaaGreatGcsac
import Derived.Test.YthlhhnnlbpecnaaGreatGcsad
import Derived.Test.YthlhhnnlbpecnaaGreatGcsab
import Derived.Deep.QuietTactic

/- Occurrences, equations, contributions and rules: how they lie in memory, their sizes, comparisons and copies. Conditions: a size is asked with at most 2^20; a copy is asked of what has at most that size. -/
namespace Go.Proofs.YthlhhnnlbpecnaaGreat
set_option linter.unusedSimpArgs false
set_option linter.unusedVariables false
set_option maxRecDepth 100000
open Go.RowKit Go.WideShapes
set_option linter.unusedVariables false

theorem list_6 {α : Type} {l : List α} (h : l.length = 6) : ∃ x0 x1 x2 x3 x4 x5, l = [x0, x1, x2, x3, x4, x5] := by
  match l, h with
  | [x0, x1, x2, x3, x4, x5], _ => exact ⟨x0, x1, x2, x3, x4, x5, rfl⟩
theorem list_9 {α : Type} {l : List α} (h : l.length = 9) : ∃ x0 x1 x2 x3 x4 x5 x6 x7 x8, l = [x0, x1, x2, x3, x4, x5, x6, x7, x8] := by
  match l, h with
  | [x0, x1, x2, x3, x4, x5, x6, x7, x8], _ => exact ⟨x0, x1, x2, x3, x4, x5, x6, x7, x8, rfl⟩
theorem list_16 {α : Type} {l : List α} (h : l.length = 16) : ∃ x0 x1 x2 x3 x4 x5 x6 x7 x8 x9 x10 x11 x12 x13 x14 x15, l = [x0, x1, x2, x3, x4, x5, x6, x7, x8, x9, x10, x11, x12, x13, x14, x15] := by
  match l, h with
  | [x0, x1, x2, x3, x4, x5, x6, x7, x8, x9, x10, x11, x12, x13, x14, x15], _ => exact ⟨x0, x1, x2, x3, x4, x5, x6, x7, x8, x9, x10, x11, x12, x13, x14, x15, rfl⟩
structure Occ where
  pos : Int
  name : ByteArray
structure Occ.ok (x : Occ) : Prop where
  pos : (Lit.int .i64 x.pos).wf = true
  name : x.name.size ≤ maxLen
def OccR (D : Nat) : CR Occ := fun w x cs F => cs.length = 2 ∧ x.ok ∧ cs[0]? = some (.int .i64 x.pos) ∧ cs[1]? = some (.string x.name) ∧ F = []
theorem OccR.good (D : Nat) : Good 2 (OccR D) where
  len := fun {w x cs F} h => by
    obtain ⟨hl, hk, h0, h1, rfl⟩ := h
    exact hl
  frame := fun {w w' x cs F} h he hz => by
    obtain ⟨hl, hk, h0, h1, rfl⟩ := h
    exact ⟨hl, hk, h0, h1, rfl⟩
  lt := fun {w x cs F} h b hb => by
    obtain ⟨hl, hk, h0, h1, rfl⟩ := h
    cases hb
theorem OccR.up {D : Nat} {w : World} {x : Occ} {cs : List Value} {F : List Nat} (h : OccR D w x cs F) (D' : Nat) (hd : D ≤ D') : OccR D' w x cs F := by
  obtain ⟨hl, hk, h0, h1, rfl⟩ := h
  exact ⟨hl, hk, h0, h1, rfl⟩
theorem OccR.one {D : Nat} {w : World} {x : Occ} {cs : List Value} {F : List Nat} (h : OccR D w x cs F) : ∀ v ∈ cs, v.oneCell' = true := by
  obtain ⟨c0, c1, rfl⟩ := list2 ((OccR.good D).len h)
  obtain ⟨hl, hk, h0, h1, rfl⟩ := h
  intro v hv
  simp only [List.mem_cons, List.not_mem_nil, or_false] at hv
  rcases hv with rfl | rfl
  · obtain rfl := Option.some.inj h0
    rfl
  · obtain rfl := Option.some.inj h1
    rfl
def bulkOcc (D : Nat) (x : Occ) : Int := (x.name.size : Int)
theorem bulkOcc_nonneg (D : Nat) (x : Occ) : 0 ≤ bulkOcc D x := by unfold bulkOcc; omega
theorem cells_Occ {H : Type} {enc : TypeId × Value → H} {w : World} {base : Nat} {sp : Nat → Bool} {held : Bool} (fuel : Nat) {cs : List Value} {x : DataW H × List MemPlace}
    (h : DataW.trod enc Tryz.prog w base sp held fuel 134 cs = some x) : ∃ y F, OccR fuel w y cs F := by
  have ht := Tryz.underlying134
  have hl := (trod_len ht h).trans (show Tryz.prog.cellsOf 134 = 2 by kernel_rfl)
  obtain ⟨c0, c1, rfl⟩ := list2 hl
  obtain ⟨z0, e0, w0⟩ := field_int 0 _ ht h rfl Tryz.underlying3 (by kernel_rfl)
  obtain ⟨z1, e1, w1⟩ := field_string 1 _ ht h rfl Tryz.underlying9 (by kernel_rfl)
  simp at e0 e1
  subst e0 e1
  exact ⟨⟨z0, z1⟩, _, rfl, ⟨w0, w1⟩, rfl, rfl, rfl⟩
set_option maxRecDepth 100000 in
theorem open_Occ {H : Type} {enc : TypeId × Value → H} {w : World} {C base : Nat} {sp : Nat → Bool} {held : Bool} {v : Value} {d : DataW H} {p : List MemPlace} (hv : Value.okWide Tryz.prog w .any C 134 v)
    (h : DataW.Trod enc Tryz.prog w base sp held 134 v d p) : ∃ (D : Nat) (y : Occ) (cs : List Value) (F : List Nat), v = .agg cs.toArray ∧ OccR D w y cs F := by
  obtain ⟨cs, fuel, x, rfl, hf⟩ := okWide_cells Tryz.underlying134 hv h
  obtain ⟨y, F, he⟩ := cells_Occ fuel hf
  exact ⟨fuel, y, _, F, rfl, he⟩
set_option maxRecDepth 100000 in
theorem z_Occ (D : Nat) (x : Occ) (cs : List Value) (F : List Nat) (w : World) (L : Int) (h : OccR D w x cs F) (h0 : 0 ≤ L) (h1 : L ≤ 1048576) :
    Calls Tryz.prog 129 #[.agg cs.toArray, .int .i64 L] w fun en w' => Sized (bulkOcc D x) L en ∧ Below w.heap.size w w' := by
  obtain ⟨c0, c1, rfl⟩ := list2 ((OccR.good D).len h)
  obtain ⟨_, hk, h0, h1, rfl⟩ := h
  obtain rfl := Option.some.inj h0
  obtain rfl := Option.some.inj h1
  have hs_name := hk.name
  unfold maxLen at hs_name
  clear hk
  obtain ⟨C, hz0, hw0⟩ := boxes1 w [.int .i64 x.pos, .string x.name] 134
  show Calls _ _ #[.agg #[.int .i64 x.pos, .string x.name], .int .i64 L] w _
  by_cases q_name : L < x.name.size
  · go_enter Tryz.func129, Tryz.ntmps129
    go_wp2_with fail
    go_ret
    exact ⟨⟨-1, rfl, .inl rfl⟩, hw0⟩
  go_enter Tryz.func129, Tryz.ntmps129
  go_wp2_with fail
  go_ret
  exact ⟨⟨_, rfl, .inr ⟨by omega, by unfold bulkOcc; omega⟩⟩, hw0⟩
set_option maxRecDepth 100000 in
theorem e_Occ (D : Nat) (x : Occ) (cs cs' : List Value) (F F' : List Nat) (w : World) (h : OccR D w x cs F) (h' : OccR D w x cs' F') :
    Calls Tryz.prog 154 #[.agg cs.toArray, .agg cs'.toArray] w fun en w' => en = .returned (.bool true) ∧ Below w.heap.size w w' := by
  obtain ⟨a0, a1, rfl⟩ := list2 ((OccR.good D).len h)
  obtain ⟨_, hk, h0, h1, rfl⟩ := h
  obtain rfl := Option.some.inj h0
  obtain rfl := Option.some.inj h1
  obtain ⟨b0, b1, rfl⟩ := list2 ((OccR.good D).len h')
  obtain ⟨_, phk, ph0, ph1, rfl⟩ := h'
  obtain rfl := Option.some.inj ph0
  obtain rfl := Option.some.inj ph1
  obtain ⟨C1, C2, hz0, hw0⟩ := boxes2 w [.int .i64 x.pos, .string x.name] [.int .i64 x.pos, .string x.name] 81 81
  show Calls _ _ #[.agg #[.int .i64 x.pos, .string x.name], .agg #[.int .i64 x.pos, .string x.name]] w _
  go_enter Tryz.func154, Tryz.ntmps154
  go_wp2_with fail
  go_ret
  exact ⟨rfl, hw0⟩
set_option maxRecDepth 100000 in
theorem c_Occ (D : Nat) (x : Occ) (cs : List Value) (F : List Nat) (w : World) (h : OccR D w x cs F) :
    Calls Tryz.prog 137 #[.agg cs.toArray] w fun en w' => ∃ us F', en = .returned (.agg (List.toArray us)) ∧ OccR D w' x us F' ∧ Fresh w.heap.size w' F' ∧ Below w.heap.size w w' := by
  obtain ⟨c0, c1, rfl⟩ := list2 ((OccR.good D).len h)
  obtain ⟨_, hk, h0, h1, rfl⟩ := h
  obtain rfl := Option.some.inj h0
  obtain rfl := Option.some.inj h1
  show Calls _ _ #[.agg #[.int .i64 x.pos, .string x.name]] w _
  go_enter Tryz.func137, Tryz.ntmps137
  go_wp2_with fail
  exact bodyPost_ret (v := .agg #[.int .i64 x.pos, .string x.name]) (by simp [results, Tryz.results137, go_sem]) rfl ⟨[.int .i64 x.pos, .string x.name], [], rfl, ⟨rfl, hk, rfl, rfl, rfl⟩, Fresh.nil _ _, (((Below.refl _ _).alloc (Nat.le_refl _) _).alloc (by simp) _).alloc (by simp; omega) _⟩
structure Eqn where
  at_ : Occ
  expr : Ex
def EqnR (D : Nat) : CR Eqn := fun w x cs F => ∃ (F0 : List Nat) (F1 : List Nat), cs.length = 9 ∧ OccR D w x.at_ ((cs.drop 0).take 2) F0 ∧ ExR D w x.expr ((cs.drop 2).take 7) F1 ∧ F = F0 ++ (F1)
theorem EqnR.good (D : Nat) : Good 9 (EqnR D) where
  len := fun {w x cs F} h => by
    obtain ⟨F0, F1, hl, h0, h1, rfl⟩ := h
    exact hl
  frame := fun {w w' x cs F} h he hz => by
    obtain ⟨F0, F1, hl, h0, h1, rfl⟩ := h
    exact ⟨F0, F1, hl, (OccR.good D).frame h0 (fun k hk' => he k (by simp only [List.mem_append]; simp [hk'])) hz, (ExR.good D).frame h1 (fun k hk' => he k (by simp only [List.mem_append]; simp [hk'])) hz, rfl⟩
  lt := fun {w x cs F} h b hb => by
    obtain ⟨F0, F1, hl, h0, h1, rfl⟩ := h
    rcases List.mem_append.1 hb with hb | hb
    · exact (OccR.good D).lt h0 b hb
    · exact (ExR.good D).lt h1 b hb
theorem EqnR.up {D : Nat} {w : World} {x : Eqn} {cs : List Value} {F : List Nat} (h : EqnR D w x cs F) (D' : Nat) (hd : D ≤ D') : EqnR D' w x cs F := by
  obtain ⟨F0, F1, hl, h0, h1, rfl⟩ := h
  exact ⟨F0, F1, hl, h0.up _ hd, h1.up _ hd, rfl⟩
theorem EqnR.one {D : Nat} {w : World} {x : Eqn} {cs : List Value} {F : List Nat} (h : EqnR D w x cs F) : ∀ v ∈ cs, v.oneCell' = true := by
  obtain ⟨c0, c1, c2, c3, c4, c5, c6, c7, c8, rfl⟩ := list_9 ((EqnR.good D).len h)
  obtain ⟨F0, F1, hl, h0, h1, rfl⟩ := h
  intro v hv
  simp only [List.mem_cons, List.not_mem_nil, or_false] at hv
  rcases hv with rfl | rfl | rfl | rfl | rfl | rfl | rfl | rfl | rfl
  · exact OccR.one h0 _ (by simp)
  · exact OccR.one h0 _ (by simp)
  · exact ExR.one h1 _ (by simp)
  · exact ExR.one h1 _ (by simp)
  · exact ExR.one h1 _ (by simp)
  · exact ExR.one h1 _ (by simp)
  · exact ExR.one h1 _ (by simp)
  · exact ExR.one h1 _ (by simp)
  · exact ExR.one h1 _ (by simp)
def bulkEqn (D : Nat) (x : Eqn) : Int := bulkOcc D x.at_ + bulkE D x.expr
theorem bulkEqn_nonneg (D : Nat) (x : Eqn) : 0 ≤ bulkEqn D x := by unfold bulkEqn; have := bulkOcc_nonneg D x.at_; have := bulkE_nonneg D x.expr; omega
theorem cells_Eqn {H : Type} {enc : TypeId × Value → H} {w : World} {base : Nat} {sp : Nat → Bool} {held : Bool} (fuel : Nat) {cs : List Value} {x : DataW H × List MemPlace}
    (h : DataW.trod enc Tryz.prog w base sp held fuel 139 cs = some x) : ∃ y F, EqnR fuel w y cs F := by
  have ht := Tryz.underlying139
  have hl := (trod_len ht h).trans (show Tryz.prog.cellsOf 139 = 9 by kernel_rfl)
  obtain ⟨c0, c1, c2, c3, c4, c5, c6, c7, c8, rfl⟩ := list_9 hl
  obtain ⟨n0, y0, hn0, k0⟩ := trod_field 0 _ ht h rfl
  have k0 : DataW.trod enc Tryz.prog w base sp held n0 134 (([c0, c1, c2, c3, c4, c5, c6, c7, c8].drop 0).take (Tryz.prog.cellsOf 134)) = some y0 := k0
  rw [show Tryz.prog.cellsOf 134 = 2 by kernel_rfl] at k0
  obtain ⟨z0, G0, r0⟩ := cells_Occ n0 k0
  obtain ⟨n1, y1, hn1, k1⟩ := trod_field 1 _ ht h rfl
  have k1 : DataW.trod enc Tryz.prog w base sp held n1 137 (([c0, c1, c2, c3, c4, c5, c6, c7, c8].drop 2).take (Tryz.prog.cellsOf 137)) = some y1 := k1
  rw [show Tryz.prog.cellsOf 137 = 7 by kernel_rfl] at k1
  obtain ⟨z1, G1, r1⟩ := cells_Expr n1 k1
  exact ⟨⟨z0, z1⟩, _, G0, G1, rfl, r0.up fuel (by omega), r1.up fuel (by omega), rfl⟩
set_option maxRecDepth 100000 in
theorem open_Eqn {H : Type} {enc : TypeId × Value → H} {w : World} {C base : Nat} {sp : Nat → Bool} {held : Bool} {v : Value} {d : DataW H} {p : List MemPlace} (hv : Value.okWide Tryz.prog w .any C 139 v)
    (h : DataW.Trod enc Tryz.prog w base sp held 139 v d p) : ∃ (D : Nat) (y : Eqn) (cs : List Value) (F : List Nat), v = .agg cs.toArray ∧ EqnR D w y cs F := by
  obtain ⟨cs, fuel, x, rfl, hf⟩ := okWide_cells Tryz.underlying139 hv h
  obtain ⟨y, F, he⟩ := cells_Eqn fuel hf
  exact ⟨fuel, y, _, F, rfl, he⟩
set_option maxRecDepth 100000 in
theorem z_Eqn (D : Nat) (x : Eqn) (cs : List Value) (F : List Nat) (w : World) (L : Int) (h : EqnR D w x cs F) (h0 : 0 ≤ L) (h1 : L ≤ 1048576) :
    Calls Tryz.prog 100 #[.agg cs.toArray, .int .i64 L] w fun en w' => Sized (bulkEqn D x) L en ∧ Below w.heap.size w w' := by
  obtain ⟨c0, c1, c2, c3, c4, c5, c6, c7, c8, rfl⟩ := list_9 ((EqnR.good D).len h)
  obtain ⟨F0, F1, _, h0, h1, rfl⟩ := h
  have HF0 := hide ((OccR.good D).lt h0)
  have HX0 : Hid (∀ W : World, Below w.heap.size w W → OccR D W x.at_ [c0, c1] F0) := hide fun W hW => (OccR.good D).below h0 hW HF0.out
  clear h0
  have HF1 := hide ((ExR.good D).lt h1)
  have HX1 : Hid (∀ W : World, Below w.heap.size w W → ExR D W x.expr [c2, c3, c4, c5, c6, c7, c8] F1) := hide fun W hW => (ExR.good D).below h1 hW HF1.out
  clear h1
  obtain ⟨C, hz0, hw0⟩ := boxes1 w [c0, c1, c2, c3, c4, c5, c6, c7, c8] 139
  show Calls _ _ #[.agg #[c0, c1, c2, c3, c4, c5, c6, c7, c8], .int .i64 L] w _
  go_enter Tryz.func100, Tryz.ntmps100
  go_wp2_with fail
  generalize w.alloc (Obj.cells #[c0, c1, c2, c3, c4, c5, c6, c7, c8] 139) = W0 at C hz0 hw0 ⊢
  have hn0 : (w.heap.size + 1) ≤ W0.heap.size := by omega
  have Hw : Hid (∀ W : World, Below (w.heap.size + 1) W0 W → Below w.heap.size w W) := hide fun W h => hw0.trans (h.mono (by omega))
  have hB0 : Below (w.heap.size + 1) W0 W0 := Below.refl _ _
  have e0 := cell_rule C (n := (w.heap.size + 1)) (by omega) 0 (v := c0) rfl
  have e1 := cell_rule C (n := (w.heap.size + 1)) (by omega) 1 (v := c1) rfl
  have e2 := cell_rule C (n := (w.heap.size + 1)) (by omega) 2 (v := c2) rfl
  have e3 := cell_rule C (n := (w.heap.size + 1)) (by omega) 3 (v := c3) rfl
  have e4 := cell_rule C (n := (w.heap.size + 1)) (by omega) 4 (v := c4) rfl
  have e5 := cell_rule C (n := (w.heap.size + 1)) (by omega) 5 (v := c5) rfl
  have e6 := cell_rule C (n := (w.heap.size + 1)) (by omega) 6 (v := c6) rfl
  have e7 := cell_rule C (n := (w.heap.size + 1)) (by omega) 7 (v := c7) rfl
  have e8 := cell_rule C (n := (w.heap.size + 1)) (by omega) 8 (v := c8) rfl
  clear C hz0 hw0
  refine Calls.mono (z_Occ D x.at_ _ F0 _ (L) (HX0.out _ (Hw.out _ hB0)) (by omega) (by omega)) ?_
  rintro en W1 ⟨⟨r0, rfl, hr⟩, hb⟩
  have hB1 : Below (w.heap.size + 1) W0 W1 := below_step hB0 hn0 hb
  clear hb
  rcases hr with rfl | ⟨hr0, hq0⟩
  · go_wp2_with fail
    go_ret
    exact ⟨⟨-1, rfl, .inl rfl⟩, Hw.out _ hB1⟩
  have hn0 := bulkOcc_nonneg D x.at_
  have hl0 : r0 ≤ 1048576 := by omega
  have Hq0 := hide hq0
  clear hq0 hn0
  go_wp2_with fail
  refine Calls.mono (l_szExpr D x.expr _ F1 _ (r0) (HX1.out _ (Hw.out _ hB1)) (by omega) (by omega)) ?_
  rintro en W2 ⟨⟨r1, rfl, hr⟩, hb⟩
  have hB2 : Below (w.heap.size + 1) W0 W2 := below_step hB1 hn0 hb
  clear hb
  rcases hr with rfl | ⟨hr1, hq1⟩
  · go_wp2_with fail
    go_ret
    exact ⟨⟨-1, rfl, .inl rfl⟩, Hw.out _ hB2⟩
  have hn1 := bulkE_nonneg D x.expr
  have hl1 : r1 ≤ 1048576 := by omega
  have Hq1 := hide hq1
  clear hq1 hn1
  go_wp2_with fail
  go_ret
  exact ⟨⟨_, rfl, .inr ⟨by omega, by have := Hq0.out; have := Hq1.out; unfold bulkEqn; omega⟩⟩, Hw.out _ hB2⟩
set_option maxRecDepth 100000 in
theorem zs_Eqn (D : Nat) (l : List Eqn) (v : Value) (F : List Nat) (w : World) (L : Int) (hs : SlR 9 (EqnR D) w l v F) (h0 : 0 ≤ L) (h1 : L ≤ 1048576) :
    Calls Tryz.prog 63 #[v, .int .i64 L] w fun en w' => Sized (l.length + sumBy (bulkEqn D) l) L en ∧ Below w.heap.size w w' := by
  obtain ⟨A, cap, rfl, hlc, hm⟩ := hs.form
  have HF := hide (hs.lt (EqnR.good D))
  unfold maxLen at hm
  have Hs := hide hs
  have Hnn := hide (bulkEqn_nonneg D)
  clear hs
  by_cases hn : L < l.length
  · go_enter Tryz.func63, Tryz.ntmps63
    go_wp2_with fail
    go_ret
    exact ⟨⟨-1, rfl, .inl rfl⟩, Below.refl _ _⟩
  go_enter Tryz.func63, Tryz.ntmps63
  go_wp2_with fail
  go_loopw [1, 5] (fun c i wr => ∃ j : Nat, j ≤ l.length ∧ i = .int .i64 j ∧ c = .int .i64 (L - l.length - sumBy (bulkEqn D) (l.take j)) ∧ 0 ≤ L - l.length - sumBy (bulkEqn D) (l.take j) ∧ Hid (Below w.heap.size w wr)) (fun _ i _ => l.length - (intOf i).toNat)
  case atStart => exact ⟨0, by omega, rfl, by simp [sumBy], by simp [sumBy]; omega, hide (Below.refl _ _)⟩
  case round =>
    obtain ⟨j, hj, rfl, rfl, hge, Hb⟩ := hrel
    have hpos := sumBy_nonneg Hnn.out (l.take j)
    by_cases hlt : j < l.length
    · have hx : l[j]? = some l[j] := List.getElem?_eq_getElem hlt
      generalize l[j] = x at hx
      have Hsum := hide (sumBy_take_succ (f := bulkEqn D) hx)
      have hcx := Hnn.out x
      obtain ⟨b, off, cs, Fk, hA, _, hbF, hFk, hcl, hcat, hR⟩ := SlR.get (EqnR.good D) (Hs.out.below (EqnR.good D) Hb.out HF.out) hx
      subst hA
      obtain ⟨c0, c1, c2, c3, c4, c5, c6, c7, c8, rfl⟩ := list_9 hcl
      have e0 : wr.cell? ⟨b, off + j * 9, none⟩ = some c0 := hcat 0 _ rfl
      have e1 : wr.cell? ⟨b, off + j * 9 + 1, none⟩ = some c1 := hcat 1 _ rfl
      have e2 : wr.cell? ⟨b, off + j * 9 + 2, none⟩ = some c2 := hcat 2 _ rfl
      have e3 : wr.cell? ⟨b, off + j * 9 + 3, none⟩ = some c3 := hcat 3 _ rfl
      have e4 : wr.cell? ⟨b, off + j * 9 + 4, none⟩ = some c4 := hcat 4 _ rfl
      have e5 : wr.cell? ⟨b, off + j * 9 + 5, none⟩ = some c5 := hcat 5 _ rfl
      have e6 : wr.cell? ⟨b, off + j * 9 + 6, none⟩ = some c6 := hcat 6 _ rfl
      have e7 : wr.cell? ⟨b, off + j * 9 + 7, none⟩ = some c7 := hcat 7 _ rfl
      have e8 : wr.cell? ⟨b, off + j * 9 + 8, none⟩ = some c8 := hcat 8 _ rfl
      have hblt := Nat.lt_of_lt_of_le (HF.out b hbF) Hb.out.size
      have HR := hide hR
      clear hx hR hcat hFk hbF hcl
      go_wp2_with fail
      refine Calls.mono (z_Eqn D x _ Fk _ (L - l.length - sumBy (bulkEqn D) (l.take j)) HR.out (by omega) (by omega)) ?_
      rintro en w2 ⟨⟨r, rfl, hr⟩, hb2⟩
      have HB2 : Hid (Below w.heap.size w w2) := hide (Hb.out.trans (hb2.mono Hb.out.size))
      clear hb2
      rcases hr with rfl | ⟨hr0, hr1⟩
      · go_wp2_with fail
        go_ret
        exact ⟨⟨-1, rfl, .inl rfl⟩, HB2.out⟩
      · have Hr1 := hide hr1
        clear hr1
        go_wp2_with fail
        go_roundw
        case rel => exact ⟨j + 1, by omega, by go_num, by rw [Hsum.out, Hr1.out]; go_num, by rw [Hsum.out]; have := Hr1.out; omega, HB2⟩
        case measure => simp [intOf]; omega
    · have hjl : j = l.length := by omega
      rw [hjl, List.take_length] at hge
      rw [hjl, List.take_length]
      go_wp2_with fail
      go_ret
      exact ⟨⟨_, rfl, .inr ⟨hge, by omega⟩⟩, Hb.out⟩
set_option maxRecDepth 100000 in
theorem e_Eqn (D : Nat) (x : Eqn) (cs cs' : List Value) (F F' : List Nat) (w : World) (h : EqnR D w x cs F) (h' : EqnR D w x cs' F') :
    Calls Tryz.prog 127 #[.agg cs.toArray, .agg cs'.toArray] w fun en w' => en = .returned (.bool true) ∧ Below w.heap.size w w' := by
  obtain ⟨a0, a1, a2, a3, a4, a5, a6, a7, a8, rfl⟩ := list_9 ((EqnR.good D).len h)
  obtain ⟨F0, F1, _, h0, h1, rfl⟩ := h
  obtain ⟨b0, b1, b2, b3, b4, b5, b6, b7, b8, rfl⟩ := list_9 ((EqnR.good D).len h')
  obtain ⟨pF0, pF1, _, ph0, ph1, rfl⟩ := h'
  have HF0 := hide ((OccR.good D).lt h0)
  have HXF0 : Hid (∀ W : World, Below w.heap.size w W → OccR D W x.at_ [a0, a1] F0) := hide fun W hW => (OccR.good D).below h0 hW HF0.out
  clear h0
  have HF1 := hide ((ExR.good D).lt h1)
  have HXF1 : Hid (∀ W : World, Below w.heap.size w W → ExR D W x.expr [a2, a3, a4, a5, a6, a7, a8] F1) := hide fun W hW => (ExR.good D).below h1 hW HF1.out
  clear h1
  have HpF0 := hide ((OccR.good D).lt ph0)
  have HXpF0 : Hid (∀ W : World, Below w.heap.size w W → OccR D W x.at_ [b0, b1] pF0) := hide fun W hW => (OccR.good D).below ph0 hW HpF0.out
  clear ph0
  have HpF1 := hide ((ExR.good D).lt ph1)
  have HXpF1 : Hid (∀ W : World, Below w.heap.size w W → ExR D W x.expr [b2, b3, b4, b5, b6, b7, b8] pF1) := hide fun W hW => (ExR.good D).below ph1 hW HpF1.out
  clear ph1
  obtain ⟨C1, C2, hz0, hw0⟩ := boxes2 w [a0, a1, a2, a3, a4, a5, a6, a7, a8] [b0, b1, b2, b3, b4, b5, b6, b7, b8] 88 88
  show Calls _ _ #[.agg #[a0, a1, a2, a3, a4, a5, a6, a7, a8], .agg #[b0, b1, b2, b3, b4, b5, b6, b7, b8]] w _
  go_enter Tryz.func127, Tryz.ntmps127
  go_wp2_with fail
  generalize (w.alloc (Obj.cells #[a0, a1, a2, a3, a4, a5, a6, a7, a8] 88)).alloc (Obj.cells #[b0, b1, b2, b3, b4, b5, b6, b7, b8] 88) = W0 at C1 C2 hz0 hw0 ⊢
  have hn0 : (w.heap.size + 2) ≤ W0.heap.size := by omega
  have Hw : Hid (∀ W : World, Below (w.heap.size + 2) W0 W → Below w.heap.size w W) := hide fun W h => hw0.trans (h.mono (by omega))
  have hB0 : Below (w.heap.size + 2) W0 W0 := Below.refl _ _
  have e0 := cell_rule C1 (n := (w.heap.size + 2)) (by omega) 0 (v := a0) rfl
  have g0 := cell_rule C2 (n := (w.heap.size + 2)) (by omega) 0 (v := b0) rfl
  have e1 := cell_rule C1 (n := (w.heap.size + 2)) (by omega) 1 (v := a1) rfl
  have g1 := cell_rule C2 (n := (w.heap.size + 2)) (by omega) 1 (v := b1) rfl
  have e2 := cell_rule C1 (n := (w.heap.size + 2)) (by omega) 2 (v := a2) rfl
  have g2 := cell_rule C2 (n := (w.heap.size + 2)) (by omega) 2 (v := b2) rfl
  have e3 := cell_rule C1 (n := (w.heap.size + 2)) (by omega) 3 (v := a3) rfl
  have g3 := cell_rule C2 (n := (w.heap.size + 2)) (by omega) 3 (v := b3) rfl
  have e4 := cell_rule C1 (n := (w.heap.size + 2)) (by omega) 4 (v := a4) rfl
  have g4 := cell_rule C2 (n := (w.heap.size + 2)) (by omega) 4 (v := b4) rfl
  have e5 := cell_rule C1 (n := (w.heap.size + 2)) (by omega) 5 (v := a5) rfl
  have g5 := cell_rule C2 (n := (w.heap.size + 2)) (by omega) 5 (v := b5) rfl
  have e6 := cell_rule C1 (n := (w.heap.size + 2)) (by omega) 6 (v := a6) rfl
  have g6 := cell_rule C2 (n := (w.heap.size + 2)) (by omega) 6 (v := b6) rfl
  have e7 := cell_rule C1 (n := (w.heap.size + 2)) (by omega) 7 (v := a7) rfl
  have g7 := cell_rule C2 (n := (w.heap.size + 2)) (by omega) 7 (v := b7) rfl
  have e8 := cell_rule C1 (n := (w.heap.size + 2)) (by omega) 8 (v := a8) rfl
  have g8 := cell_rule C2 (n := (w.heap.size + 2)) (by omega) 8 (v := b8) rfl
  clear C1 C2 hz0 hw0
  refine Calls.mono (e_Occ D x.at_ _ _ F0 pF0 _ (HXF0.out _ (Hw.out _ hB0)) (HXpF0.out _ (Hw.out _ hB0))) ?_
  rintro en W1 ⟨rfl, hb⟩
  have hB1 : Below (w.heap.size + 2) W0 W1 := below_step hB0 hn0 hb
  clear hb
  go_wp2_with fail
  refine Calls.mono (ee_Ex D x.expr _ _ F1 pF1 _ (HXF1.out _ (Hw.out _ hB1)) (HXpF1.out _ (Hw.out _ hB1))) ?_
  rintro en W2 ⟨rfl, hb⟩
  have hB2 : Below (w.heap.size + 2) W0 W2 := below_step hB1 hn0 hb
  clear hb
  go_wp2_with fail
  go_ret
  exact ⟨rfl, Hw.out _ hB2⟩
set_option maxRecDepth 100000 in
theorem es_Eqn (D : Nat) (l : List Eqn) (v v' : Value) (F F' : List Nat) (w : World) (hs : SlR 9 (EqnR D) w l v F) (hs' : SlR 9 (EqnR D) w l v' F') :
    Calls Tryz.prog 97 #[v, v'] w fun en w' => en = .returned (.bool true) ∧ Below w.heap.size w w' := by
  obtain ⟨A, cap, rfl, hlc, hm⟩ := hs.form
  obtain ⟨A', cap', rfl, hlc', hm'⟩ := hs'.form
  have HF := hide (hs.lt (EqnR.good D))
  have HF' := hide (hs'.lt (EqnR.good D))
  unfold maxLen at hm hm'
  have Hs := hide hs
  have Hs' := hide hs'
  clear hs hs'
  go_enter Tryz.func97, Tryz.ntmps97
  go_wp2_with fail
  go_loopw [5] (fun i wr => ∃ j : Nat, j ≤ l.length ∧ i = .int .i64 j ∧ Hid (Below w.heap.size w wr)) (fun i _ => l.length - (intOf i).toNat)
  case atStart => exact ⟨0, by omega, rfl, hide (Below.refl _ _)⟩
  case round =>
    obtain ⟨j, hj, rfl, Hb⟩ := hrel
    by_cases hlt : j < l.length
    · have hx : l[j]? = some l[j] := List.getElem?_eq_getElem hlt
      generalize l[j] = x at hx
      obtain ⟨b, off, cs, Fk, hA, _, hbF, hFk, hcl, hcat, hR⟩ := SlR.get (EqnR.good D) (Hs.out.below (EqnR.good D) Hb.out HF.out) hx
      subst hA
      obtain ⟨a0, a1, a2, a3, a4, a5, a6, a7, a8, rfl⟩ := list_9 hcl
      obtain ⟨b', off', cs', Fk', hA, _, hbF', hFk', hcl', hcat', hR'⟩ := SlR.get (EqnR.good D) (Hs'.out.below (EqnR.good D) Hb.out HF'.out) hx
      subst hA
      obtain ⟨b0, b1, b2, b3, b4, b5, b6, b7, b8, rfl⟩ := list_9 hcl'
      have hblt := Nat.lt_of_lt_of_le (HF.out b hbF) Hb.out.size
      have hblt' := Nat.lt_of_lt_of_le (HF'.out b' hbF') Hb.out.size
      have e0 : ∀ W : World, Below wr.heap.size wr W → W.cell? ⟨b, off + j * 9, none⟩ = some a0 := fun W h => (hcat.below h hblt) 0 _ rfl
      have e1 : ∀ W : World, Below wr.heap.size wr W → W.cell? ⟨b, off + j * 9 + 1, none⟩ = some a1 := fun W h => (hcat.below h hblt) 1 _ rfl
      have e2 : ∀ W : World, Below wr.heap.size wr W → W.cell? ⟨b, off + j * 9 + 2, none⟩ = some a2 := fun W h => (hcat.below h hblt) 2 _ rfl
      have e3 : ∀ W : World, Below wr.heap.size wr W → W.cell? ⟨b, off + j * 9 + 3, none⟩ = some a3 := fun W h => (hcat.below h hblt) 3 _ rfl
      have e4 : ∀ W : World, Below wr.heap.size wr W → W.cell? ⟨b, off + j * 9 + 4, none⟩ = some a4 := fun W h => (hcat.below h hblt) 4 _ rfl
      have e5 : ∀ W : World, Below wr.heap.size wr W → W.cell? ⟨b, off + j * 9 + 5, none⟩ = some a5 := fun W h => (hcat.below h hblt) 5 _ rfl
      have e6 : ∀ W : World, Below wr.heap.size wr W → W.cell? ⟨b, off + j * 9 + 6, none⟩ = some a6 := fun W h => (hcat.below h hblt) 6 _ rfl
      have e7 : ∀ W : World, Below wr.heap.size wr W → W.cell? ⟨b, off + j * 9 + 7, none⟩ = some a7 := fun W h => (hcat.below h hblt) 7 _ rfl
      have e8 : ∀ W : World, Below wr.heap.size wr W → W.cell? ⟨b, off + j * 9 + 8, none⟩ = some a8 := fun W h => (hcat.below h hblt) 8 _ rfl
      have g0 : ∀ W : World, Below wr.heap.size wr W → W.cell? ⟨b', off' + j * 9, none⟩ = some b0 := fun W h => (hcat'.below h hblt') 0 _ rfl
      have g1 : ∀ W : World, Below wr.heap.size wr W → W.cell? ⟨b', off' + j * 9 + 1, none⟩ = some b1 := fun W h => (hcat'.below h hblt') 1 _ rfl
      have g2 : ∀ W : World, Below wr.heap.size wr W → W.cell? ⟨b', off' + j * 9 + 2, none⟩ = some b2 := fun W h => (hcat'.below h hblt') 2 _ rfl
      have g3 : ∀ W : World, Below wr.heap.size wr W → W.cell? ⟨b', off' + j * 9 + 3, none⟩ = some b3 := fun W h => (hcat'.below h hblt') 3 _ rfl
      have g4 : ∀ W : World, Below wr.heap.size wr W → W.cell? ⟨b', off' + j * 9 + 4, none⟩ = some b4 := fun W h => (hcat'.below h hblt') 4 _ rfl
      have g5 : ∀ W : World, Below wr.heap.size wr W → W.cell? ⟨b', off' + j * 9 + 5, none⟩ = some b5 := fun W h => (hcat'.below h hblt') 5 _ rfl
      have g6 : ∀ W : World, Below wr.heap.size wr W → W.cell? ⟨b', off' + j * 9 + 6, none⟩ = some b6 := fun W h => (hcat'.below h hblt') 6 _ rfl
      have g7 : ∀ W : World, Below wr.heap.size wr W → W.cell? ⟨b', off' + j * 9 + 7, none⟩ = some b7 := fun W h => (hcat'.below h hblt') 7 _ rfl
      have g8 : ∀ W : World, Below wr.heap.size wr W → W.cell? ⟨b', off' + j * 9 + 8, none⟩ = some b8 := fun W h => (hcat'.below h hblt') 8 _ rfl
      have HR := hide hR
      have HR' := hide hR'
      have hj0 : (0 : Int) ≤ (j : Int) := by omega
      have hj1 : (j : Int) < (l.length : Int) := by omega
      have hBr : Below wr.heap.size wr wr := Below.refl _ _
      clear hx hR hR' hcat hcat' hFk hFk' hbF hbF' hcl hcl'
      go_wp2_with fail
      go_region_held3 (fun W => Below wr.heap.size wr W)
        (first | assumption | exact Below.drew (by assumption))
        ((go_at_call 127; refine Calls.mono (e_Eqn D x _ _ Fk Fk' _ ((EqnR.good D).heap HR.out rfl) ((EqnR.good D).heap HR'.out rfl)) ?_; rintro en w2 ⟨rfl, hb2⟩; have hB2 : Below wr.heap.size wr w2 := below_step (by (repeat (first | assumption | apply Below.drew))) (Nat.le_refl _) hb2; clear hb2))
      have HB2 : Hid (Below w.heap.size w w2) := hide (Hb.out.trans (hB2.mono Hb.out.size))
      clear hB2
      go_wp2_with fail
      go_roundw
      case rel => exact ⟨j + 1, by omega, by go_num, HB2⟩
      case measure => simp [intOf]; omega
    · go_wp2_with fail
      go_ret
      exact ⟨rfl, Hb.out⟩
set_option maxRecDepth 100000 in
theorem c_Eqn (D : Nat) (x : Eqn) (cs : List Value) (F : List Nat) (w : World) (h : EqnR D w x cs F) (hbk : bulkEqn D x ≤ 1048576) :
    Calls Tryz.prog 111 #[.agg cs.toArray] w fun en w' => ∃ us F', en = .returned (.agg (List.toArray us)) ∧ EqnR D w' x us F' ∧ Fresh w.heap.size w' F' ∧ Below w.heap.size w w' := by
  obtain ⟨c0, c1, c2, c3, c4, c5, c6, c7, c8, rfl⟩ := list_9 ((EqnR.good D).len h)
  obtain ⟨F0, F1, _, h0, h1, rfl⟩ := h
  have Hbk := hide hbk
  clear hbk
  have HF0 := hide ((OccR.good D).lt h0)
  have HX0 : Hid (∀ W : World, Below w.heap.size w W → OccR D W x.at_ [c0, c1] F0) := hide fun W hW => (OccR.good D).below h0 hW HF0.out
  clear h0
  have HF1 := hide ((ExR.good D).lt h1)
  have HX1 : Hid (∀ W : World, Below w.heap.size w W → ExR D W x.expr [c2, c3, c4, c5, c6, c7, c8] F1) := hide fun W hW => (ExR.good D).below h1 hW HF1.out
  clear h1
  have Hb0 : Hid (bulkOcc D x.at_ ≤ 1048576) := hide (by
    have hb := Hbk.out
    unfold bulkEqn at hb
    have := bulkOcc_nonneg D x.at_; have := bulkE_nonneg D x.expr
    omega)
  have Hb1 : Hid (bulkE D x.expr ≤ 1048576) := hide (by
    have hb := Hbk.out
    unfold bulkEqn at hb
    have := bulkOcc_nonneg D x.at_; have := bulkE_nonneg D x.expr
    omega)
  obtain ⟨C, hz0, hw0⟩ := boxes1 w [c0, c1, c2, c3, c4, c5, c6, c7, c8] 139
  show Calls _ _ #[.agg #[c0, c1, c2, c3, c4, c5, c6, c7, c8]] w _
  go_enter Tryz.func111, Tryz.ntmps111
  go_wp2_with fail
  have hA1 := heap_alloc_new (w.alloc (Obj.cells #[c0, c1, c2, c3, c4, c5, c6, c7, c8] 139)) (Obj.cells #[.int .i64 0, .string ⟨#[]⟩, .int .i64 0, .int .i64 0, .int .i64 0, .int .i64 0, .string ⟨#[]⟩, .string ⟨#[]⟩, .slice none 0 0] 88)
  have hA2 := heap_alloc_new ((w.alloc (Obj.cells #[c0, c1, c2, c3, c4, c5, c6, c7, c8] 139)).alloc (Obj.cells #[.int .i64 0, .string ⟨#[]⟩, .int .i64 0, .int .i64 0, .int .i64 0, .int .i64 0, .string ⟨#[]⟩, .string ⟨#[]⟩, .slice none 0 0] 88)) (Obj.cells #[.int .i64 0, .string ⟨#[]⟩, .int .i64 0, .int .i64 0, .int .i64 0, .int .i64 0, .string ⟨#[]⟩, .string ⟨#[]⟩, .slice none 0 0] 88)
  have hA0 : Below (w.heap.size + 1) (w.alloc (Obj.cells #[c0, c1, c2, c3, c4, c5, c6, c7, c8] 139)) (((w.alloc (Obj.cells #[c0, c1, c2, c3, c4, c5, c6, c7, c8] 139)).alloc (Obj.cells #[.int .i64 0, .string ⟨#[]⟩, .int .i64 0, .int .i64 0, .int .i64 0, .int .i64 0, .string ⟨#[]⟩, .string ⟨#[]⟩, .slice none 0 0] 88)).alloc (Obj.cells #[.int .i64 0, .string ⟨#[]⟩, .int .i64 0, .int .i64 0, .int .i64 0, .int .i64 0, .string ⟨#[]⟩, .string ⟨#[]⟩, .slice none 0 0] 88)) := ((Below.refl _ _).alloc (Nat.le_of_eq hz0.symm) _).alloc (by simp) _
  rw [hz0] at hA1
  have hA3 := (Below.heap_alloc ((w.alloc (Obj.cells #[c0, c1, c2, c3, c4, c5, c6, c7, c8] 139)).alloc (Obj.cells #[.int .i64 0, .string ⟨#[]⟩, .int .i64 0, .int .i64 0, .int .i64 0, .int .i64 0, .string ⟨#[]⟩, .string ⟨#[]⟩, .slice none 0 0] 88)) (Obj.cells #[.int .i64 0, .string ⟨#[]⟩, .int .i64 0, .int .i64 0, .int .i64 0, .int .i64 0, .string ⟨#[]⟩, .string ⟨#[]⟩, .slice none 0 0] 88) (w.heap.size + 1) (by simp)).trans hA1
  have hz2 : (((w.alloc (Obj.cells #[c0, c1, c2, c3, c4, c5, c6, c7, c8] 139)).alloc (Obj.cells #[.int .i64 0, .string ⟨#[]⟩, .int .i64 0, .int .i64 0, .int .i64 0, .int .i64 0, .string ⟨#[]⟩, .string ⟨#[]⟩, .slice none 0 0] 88)).alloc (Obj.cells #[.int .i64 0, .string ⟨#[]⟩, .int .i64 0, .int .i64 0, .int .i64 0, .int .i64 0, .string ⟨#[]⟩, .string ⟨#[]⟩, .slice none 0 0] 88)).heap.size = w.heap.size + 3 := by simp
  rw [World.size_alloc, hz0] at hA2
  clear hA1
  have hB0 := hA0
  generalize ((w.alloc (Obj.cells #[c0, c1, c2, c3, c4, c5, c6, c7, c8] 139)).alloc (Obj.cells #[.int .i64 0, .string ⟨#[]⟩, .int .i64 0, .int .i64 0, .int .i64 0, .int .i64 0, .string ⟨#[]⟩, .string ⟨#[]⟩, .slice none 0 0] 88)).alloc (Obj.cells #[.int .i64 0, .string ⟨#[]⟩, .int .i64 0, .int .i64 0, .int .i64 0, .int .i64 0, .string ⟨#[]⟩, .string ⟨#[]⟩, .slice none 0 0] 88) = W0 at hA0 hA2 hA3 hz2 hB0 ⊢
  generalize w.alloc (Obj.cells #[c0, c1, c2, c3, c4, c5, c6, c7, c8] 139) = U at C hz0 hw0 hA0 hB0
  have hn0 : (w.heap.size + 1) ≤ U.heap.size := by omega
  have Hw : Hid (∀ W : World, Below (w.heap.size + 1) U W → Below w.heap.size w W) := hide fun W h => hw0.trans (h.mono (by omega))
  have e0 := cell_rule C (n := (w.heap.size + 1)) (by omega) 0 (v := c0) rfl
  have e1 := cell_rule C (n := (w.heap.size + 1)) (by omega) 1 (v := c1) rfl
  have e2 := cell_rule C (n := (w.heap.size + 1)) (by omega) 2 (v := c2) rfl
  have e3 := cell_rule C (n := (w.heap.size + 1)) (by omega) 3 (v := c3) rfl
  have e4 := cell_rule C (n := (w.heap.size + 1)) (by omega) 4 (v := c4) rfl
  have e5 := cell_rule C (n := (w.heap.size + 1)) (by omega) 5 (v := c5) rfl
  have e6 := cell_rule C (n := (w.heap.size + 1)) (by omega) 6 (v := c6) rfl
  have e7 := cell_rule C (n := (w.heap.size + 1)) (by omega) 7 (v := c7) rfl
  have e8 := cell_rule C (n := (w.heap.size + 1)) (by omega) 8 (v := c8) rfl
  have hZ0 : w.heap.size + 3 ≤ W0.heap.size := by omega
  clear C hz0 hw0 hA0 hz2
  have HR3_0 := hide hA2
  have HR2_0 := hide hA3
  clear hA2 hA3
  have hst := fun (w : World) (a : Addr) (v : Value) (m : Mode) (hv : v.oneCell' = true) => run_store Tryz.prog w a v m hv
  refine Calls.mono (c_Occ D x.at_ _ F0 _ (HX0.out _ (Hw.out _ hB0))) ?_
  rintro en W1 ⟨us, G0, rfl, hR, hf, hb⟩
  obtain ⟨u0_0, u0_1, rfl⟩ := list2 ((OccR.good D).len hR)
  have ho := OccR.one hR
  have o_u0_0 := ho u0_0 (by simp)
  have o_u0_1 := ho u0_1 (by simp)
  clear ho
  have HR0 := hide hR
  have Hf0 := hide hf
  have hY1 : Below (w.heap.size + 1) U W1 := below_step hB0 hn0 hb
  have HL0 : Hid (Later (w.heap.size + 3) W0 W1) := hide (Later.of_below hb)
  have h3 := blk_below HR3_0.out hb (by omega)
  have h2 := blk_below HR2_0.out hb (by omega)
  have hY := hb.size
  have hS1 : w.heap.size + 3 ≤ W1.heap.size := by omega
  clear hR hf hb hY
  have q0 := cell_at (i := 0) h3 (by simp)
  have g0 := frozen_of_row W1 (w.heap.size + 1 + 1) 0 _ _ h3
  have q1 := cell_at (i := 1) h3 (by simp)
  have g1 := frozen_of_row W1 (w.heap.size + 1 + 1) 1 _ _ h3
  simp only [Array.getD_eq_getD_getElem?, List.getElem?_toArray, List.getElem?_cons_succ, List.getElem?_cons_zero, Option.getD_some] at q0 q1
  have H3 := hide h3
  have H2 := hide h2
  clear h3 h2
  go_wp2_with fail
  show Calls _ _ _ (putCells W1 (w.heap.size + 1 + 1) 0 [u0_0, u0_1]) _
  have hP := put_spec [u0_0, u0_1] 0 W1 _ H3.out (by simp)
  have h3 := put_blk [u0_0, u0_1] 0 W1 _ H3.out
  simp only [setMany, List.setIfInBounds_toArray, List.set_cons_zero, List.set_cons_succ] at h3
  have hBn : Below (w.heap.size + 1) U (putCells W1 (w.heap.size + 1 + 1) 0 [u0_0, u0_1]) := hY1.trans (hP.below (by omega))
  have hLn : Later (w.heap.size + 3) W1 (putCells W1 (w.heap.size + 1 + 1) 0 [u0_0, u0_1]) := Later.of_put hP (by omega)
  have h2 := (hP.far (w.heap.size + 1) (by omega)).trans H2.out
  have hZn : w.heap.size + 3 ≤ (putCells W1 (w.heap.size + 1 + 1) 0 [u0_0, u0_1]).heap.size := by rw [hP.size]; exact hS1
  clear hP q0 g0 q1 g1
  generalize putCells W1 (w.heap.size + 1 + 1) 0 [u0_0, u0_1] = V1 at h3 h2 hBn hLn hZn ⊢
  have hB1 := hBn
  have HK0 := hide hLn
  have HR3_1 := hide h3
  have HR2_1 := hide h2
  have hT1 := hZn
  clear hBn hLn h3 h2 hZn hY1 hS1
  refine Calls.mono (c_Ex D x.expr _ F1 _ (HX1.out _ (Hw.out _ hB1)) Hb1.out) ?_
  rintro en W2 ⟨us, G1, rfl, hR, hf, hb⟩
  obtain ⟨u1_0, u1_1, u1_2, u1_3, u1_4, u1_5, u1_6, rfl⟩ := list7 ((ExR.good D).len hR)
  have ho := ExR.one hR
  have o_u1_0 := ho u1_0 (by simp)
  have o_u1_1 := ho u1_1 (by simp)
  have o_u1_2 := ho u1_2 (by simp)
  have o_u1_3 := ho u1_3 (by simp)
  have o_u1_4 := ho u1_4 (by simp)
  have o_u1_5 := ho u1_5 (by simp)
  have o_u1_6 := ho u1_6 (by simp)
  clear ho
  have HR1 := hide hR
  have Hf1 := hide hf
  have hY2 : Below (w.heap.size + 1) U W2 := below_step hB1 hn0 hb
  have HL1 : Hid (Later (w.heap.size + 3) V1 W2) := hide (Later.of_below hb)
  have h3 := blk_below HR3_1.out hb (by omega)
  have h2 := blk_below HR2_1.out hb (by omega)
  have hY := hb.size
  have hS2 : w.heap.size + 3 ≤ W2.heap.size := by omega
  clear hR hf hb hY
  have q0 := cell_at (i := 0) h3 (by simp)
  have g0 := frozen_of_row W2 (w.heap.size + 1 + 1) 0 _ _ h3
  have q1 := cell_at (i := 1) h3 (by simp)
  have g1 := frozen_of_row W2 (w.heap.size + 1 + 1) 1 _ _ h3
  have q2 := cell_at (i := 2) h3 (by simp)
  have g2 := frozen_of_row W2 (w.heap.size + 1 + 1) 2 _ _ h3
  have q3 := cell_at (i := 3) h3 (by simp)
  have g3 := frozen_of_row W2 (w.heap.size + 1 + 1) 3 _ _ h3
  have q4 := cell_at (i := 4) h3 (by simp)
  have g4 := frozen_of_row W2 (w.heap.size + 1 + 1) 4 _ _ h3
  have q5 := cell_at (i := 5) h3 (by simp)
  have g5 := frozen_of_row W2 (w.heap.size + 1 + 1) 5 _ _ h3
  have q6 := cell_at (i := 6) h3 (by simp)
  have g6 := frozen_of_row W2 (w.heap.size + 1 + 1) 6 _ _ h3
  have q7 := cell_at (i := 7) h3 (by simp)
  have g7 := frozen_of_row W2 (w.heap.size + 1 + 1) 7 _ _ h3
  have q8 := cell_at (i := 8) h3 (by simp)
  have g8 := frozen_of_row W2 (w.heap.size + 1 + 1) 8 _ _ h3
  have r0 := cell_at (i := 0) h2 (by simp)
  have s0 := frozen_of_row W2 (w.heap.size + 1) 0 _ _ h2
  have r1 := cell_at (i := 1) h2 (by simp)
  have s1 := frozen_of_row W2 (w.heap.size + 1) 1 _ _ h2
  have r2 := cell_at (i := 2) h2 (by simp)
  have s2 := frozen_of_row W2 (w.heap.size + 1) 2 _ _ h2
  have r3 := cell_at (i := 3) h2 (by simp)
  have s3 := frozen_of_row W2 (w.heap.size + 1) 3 _ _ h2
  have r4 := cell_at (i := 4) h2 (by simp)
  have s4 := frozen_of_row W2 (w.heap.size + 1) 4 _ _ h2
  have r5 := cell_at (i := 5) h2 (by simp)
  have s5 := frozen_of_row W2 (w.heap.size + 1) 5 _ _ h2
  have r6 := cell_at (i := 6) h2 (by simp)
  have s6 := frozen_of_row W2 (w.heap.size + 1) 6 _ _ h2
  have r7 := cell_at (i := 7) h2 (by simp)
  have s7 := frozen_of_row W2 (w.heap.size + 1) 7 _ _ h2
  have r8 := cell_at (i := 8) h2 (by simp)
  have s8 := frozen_of_row W2 (w.heap.size + 1) 8 _ _ h2
  simp only [Array.getD_eq_getD_getElem?, List.getElem?_toArray, List.getElem?_cons_succ, List.getElem?_cons_zero, Option.getD_some] at q0 q1 q2 q3 q4 q5 q6 q7 q8 r0 r1 r2 r3 r4 r5 r6 r7 r8
  have H3 := hide h3
  have H2 := hide h2
  clear h3 h2
  go_wp2_with fail
  change bodyPost _ _ _ _ _ (putCells (putCells W2 (w.heap.size + 1 + 1) 2 [u1_0, u1_1, u1_2, u1_3, u1_4, u1_5, u1_6]) (w.heap.size + 1) 0 [u0_0, u0_1, u1_0, u1_1, u1_2, u1_3, u1_4, u1_5, u1_6])
  have hP := put_spec [u1_0, u1_1, u1_2, u1_3, u1_4, u1_5, u1_6] 2 W2 _ H3.out (by simp)
  have hQ := put_spec [u0_0, u0_1, u1_0, u1_1, u1_2, u1_3, u1_4, u1_5, u1_6] 0 (putCells W2 (w.heap.size + 1 + 1) 2 [u1_0, u1_1, u1_2, u1_3, u1_4, u1_5, u1_6]) _ ((hP.far (w.heap.size + 1) (by omega)).trans H2.out) (by simp)
  have hB : Below (w.heap.size + 1) U (putCells (putCells W2 (w.heap.size + 1 + 1) 2 [u1_0, u1_1, u1_2, u1_3, u1_4, u1_5, u1_6]) (w.heap.size + 1) 0 [u0_0, u0_1, u1_0, u1_1, u1_2, u1_3, u1_4, u1_5, u1_6]) := hY2.trans ((hP.below (by omega)).trans (hQ.below (by omega)))
  have hL : Later (w.heap.size + 3) W2 (putCells (putCells W2 (w.heap.size + 1 + 1) 2 [u1_0, u1_1, u1_2, u1_3, u1_4, u1_5, u1_6]) (w.heap.size + 1) 0 [u0_0, u0_1, u1_0, u1_1, u1_2, u1_3, u1_4, u1_5, u1_6]) := (Later.of_put hP (by omega)).trans (Later.of_put hQ (by omega))
  have hC := hQ.cellsAt
  generalize putCells (putCells W2 (w.heap.size + 1 + 1) 2 [u1_0, u1_1, u1_2, u1_3, u1_4, u1_5, u1_6]) (w.heap.size + 1) 0 [u0_0, u0_1, u1_0, u1_1, u1_2, u1_3, u1_4, u1_5, u1_6] = WF at hB hL hC ⊢
  have x0 : WF.cell? ⟨(w.heap.size + 1), 0, none⟩ = some (u0_0) := hC 0 _ rfl
  have x1 : WF.cell? ⟨(w.heap.size + 1), 1, none⟩ = some (u0_1) := (show WF.cell? ⟨(w.heap.size + 1), 0 + 1, none⟩ = _ from hC 1 _ rfl)
  have x2 : WF.cell? ⟨(w.heap.size + 1), 2, none⟩ = some (u1_0) := (show WF.cell? ⟨(w.heap.size + 1), 0 + 2, none⟩ = _ from hC 2 _ rfl)
  have x3 : WF.cell? ⟨(w.heap.size + 1), 3, none⟩ = some (u1_1) := (show WF.cell? ⟨(w.heap.size + 1), 0 + 3, none⟩ = _ from hC 3 _ rfl)
  have x4 : WF.cell? ⟨(w.heap.size + 1), 4, none⟩ = some (u1_2) := (show WF.cell? ⟨(w.heap.size + 1), 0 + 4, none⟩ = _ from hC 4 _ rfl)
  have x5 : WF.cell? ⟨(w.heap.size + 1), 5, none⟩ = some (u1_3) := (show WF.cell? ⟨(w.heap.size + 1), 0 + 5, none⟩ = _ from hC 5 _ rfl)
  have x6 : WF.cell? ⟨(w.heap.size + 1), 6, none⟩ = some (u1_4) := (show WF.cell? ⟨(w.heap.size + 1), 0 + 6, none⟩ = _ from hC 6 _ rfl)
  have x7 : WF.cell? ⟨(w.heap.size + 1), 7, none⟩ = some (u1_5) := (show WF.cell? ⟨(w.heap.size + 1), 0 + 7, none⟩ = _ from hC 7 _ rfl)
  have x8 : WF.cell? ⟨(w.heap.size + 1), 8, none⟩ = some (u1_6) := (show WF.cell? ⟨(w.heap.size + 1), 0 + 8, none⟩ = _ from hC 8 _ rfl)
  have hFin : EqnR D WF x [u0_0, u0_1, u1_0, u1_1, u1_2, u1_3, u1_4, u1_5, u1_6] (G0 ++ G1) := ⟨G0, G1, rfl, (OccR.good D).later HR0.out Hf0.out (HK0.out.trans (HL1.out.trans (hL))) (by omega), (ExR.good D).later HR1.out Hf1.out (hL) (by omega), rfl⟩
  have hFr : Fresh w.heap.size WF (G0 ++ G1) := ((Hf0.out.later (HK0.out.trans (HL1.out.trans (hL))) (by omega)).append (Hf1.out.later (hL) (by omega)) (fun b hb => by have := Hf0.out.lt b hb; have := HK0.out.size; omega) (by have := HK0.out.size; have := HL0.out.size; omega)).mono (by omega)
  exact bodyPost_ret (v := .agg #[u0_0, u0_1, u1_0, u1_1, u1_2, u1_3, u1_4, u1_5, u1_6]) (by simp [results, Tryz.results111, go_sem, x0, x1, x2, x3, x4, x5, x6, x7, x8]) rfl ⟨[u0_0, u0_1, u1_0, u1_1, u1_2, u1_3, u1_4, u1_5, u1_6], (G0 ++ G1), rfl, hFin, hFr, Hw.out _ hB⟩
set_option maxRecDepth 100000 in
theorem cs_Eqn (D : Nat) (l : List Eqn) (v : Value) (F : List Nat) (w : World) (hs : SlR 9 (EqnR D) w l v F) (hl : l.length ≤ 1048576) (hbl : sumBy (bulkEqn D) l ≤ 1048576) :
    Calls Tryz.prog 77 #[v] w fun en w' => ∃ v' F', en = .returned v' ∧ SlR 9 (EqnR D) w' l v' F' ∧ Fresh w.heap.size w' F' ∧ Below w.heap.size w w' := by
  obtain ⟨A, cap, rfl, hlc, hm⟩ := hs.form
  have HF := hide (hs.lt (EqnR.good D))
  have Hs := hide hs
  have Hbl := hide (fun x (hx : x ∈ l) => Int.le_trans (sumBy_mem (f := bulkEqn D) (bulkEqn_nonneg D) hx) hbl)
  clear hs hbl hlc hm
  have hmk := fun W => run_make_rowN' (P := Tryz.prog) 47 88 (.agg #[.int .i64 0, .string ByteArray.empty, .int .i64 0, .int .i64 0, .int .i64 0, .int .i64 0, .string ByteArray.empty, .string ByteArray.empty, .slice none 0 0]) 9 112 Tryz.underlying47 (by kernel_rfl) .i64 .i64 l.length (by omega) (by omega) W
  have hst := fun (w : World) (a : Addr) (v : Value) (m : Mode) (hv : v.oneCell' = true) => run_store Tryz.prog w a v m hv
  go_enter Tryz.func77, Tryz.ntmps77
  go_wp2_with fail
  go_loopw [4] (fun i wr => ∃ (j : Nat) (F' : List Nat), j ≤ l.length ∧ i = .int .i64 j ∧ Hid (ElR 9 (EqnR D) wr w.heap.size 0 (l.take j) F') ∧ Hid (Fresh (w.heap.size + 1) wr F') ∧ Hid (∃ cs, wr.heap[w.heap.size]? = some (.cells cs 88 (0, 0)) ∧ cs.size = l.length * 9) ∧ Hid (Below w.heap.size w wr)) (fun i _ => l.length - (intOf i).toNat)
  case atStart => exact ⟨0, [], by omega, rfl, hide rfl, hide (Fresh.nil _ _), hide ⟨_, heap_alloc_new w _, by simp [madeCells]⟩, hide ((Below.refl _ _).alloc (Nat.le_refl _) _)⟩
  case round =>
    obtain ⟨j, F', hj, rfl, Hel, Hfr, Hbk, Hb⟩ := hrel
    by_cases hlt : j < l.length
    · have hx : l[j]? = some l[j] := List.getElem?_eq_getElem hlt
      generalize l[j] = x at hx
      have Hx := hide hx
      obtain ⟨b, off, cs, Fk, hA, _, hbF, hFk, hcl, hcat, hR⟩ := SlR.get (EqnR.good D) (Hs.out.below (EqnR.good D) Hb.out HF.out) hx
      subst hA
      obtain ⟨c0, c1, c2, c3, c4, c5, c6, c7, c8, rfl⟩ := list_9 hcl
      have e0 : wr.cell? ⟨b, off + j * 9, none⟩ = some c0 := hcat 0 _ rfl
      have e1 : wr.cell? ⟨b, off + j * 9 + 1, none⟩ = some c1 := hcat 1 _ rfl
      have e2 : wr.cell? ⟨b, off + j * 9 + 2, none⟩ = some c2 := hcat 2 _ rfl
      have e3 : wr.cell? ⟨b, off + j * 9 + 3, none⟩ = some c3 := hcat 3 _ rfl
      have e4 : wr.cell? ⟨b, off + j * 9 + 4, none⟩ = some c4 := hcat 4 _ rfl
      have e5 : wr.cell? ⟨b, off + j * 9 + 5, none⟩ = some c5 := hcat 5 _ rfl
      have e6 : wr.cell? ⟨b, off + j * 9 + 6, none⟩ = some c6 := hcat 6 _ rfl
      have e7 : wr.cell? ⟨b, off + j * 9 + 7, none⟩ = some c7 := hcat 7 _ rfl
      have e8 : wr.cell? ⟨b, off + j * 9 + 8, none⟩ = some c8 := hcat 8 _ rfl
      have hblt := Nat.lt_of_lt_of_le (HF.out b hbF) Hb.out.size
      have HR := hide hR
      have hbz := Hb.out.size
      clear hx hR hcat hFk hbF hcl
      go_wp2_with fail
      refine Calls.mono (c_Eqn D x _ Fk _ HR.out (Hbl.out x (List.mem_of_getElem? Hx.out))) ?_
      rintro en w2 ⟨us, F2, rfl, hR2, hf2, hb2⟩
      obtain ⟨u0, u1, u2, u3, u4, u5, u6, u7, u8, rfl⟩ := list_9 ((EqnR.good D).len hR2)
      have ho := EqnR.one hR2
      have o0 := ho u0 (by simp)
      have o1 := ho u1 (by simp)
      have o2 := ho u2 (by simp)
      have o3 := ho u3 (by simp)
      have o4 := ho u4 (by simp)
      have o5 := ho u5 (by simp)
      have o6 := ho u6 (by simp)
      have o7 := ho u7 (by simp)
      have o8 := ho u8 (by simp)
      obtain ⟨cs, hcs, hcz⟩ := Hbk.out
      have hcs2 : w2.heap[w.heap.size]? = some (.cells cs 88 (0, 0)) := blk_below hcs hb2 (blk_lt hcs)
      have q0 := cell_at (i := j * 9) hcs2 (by omega)
      have q1 := cell_at (i := j * 9 + 1) hcs2 (by omega)
      have q2 := cell_at (i := j * 9 + 2) hcs2 (by omega)
      have q3 := cell_at (i := j * 9 + 3) hcs2 (by omega)
      have q4 := cell_at (i := j * 9 + 4) hcs2 (by omega)
      have q5 := cell_at (i := j * 9 + 5) hcs2 (by omega)
      have q6 := cell_at (i := j * 9 + 6) hcs2 (by omega)
      have q7 := cell_at (i := j * 9 + 7) hcs2 (by omega)
      have q8 := cell_at (i := j * 9 + 8) hcs2 (by omega)
      have g0 := frozen_of_row w2 w.heap.size (j * 9) _ _ hcs2
      have g1 := frozen_of_row w2 w.heap.size (j * 9 + 1) _ _ hcs2
      have g2 := frozen_of_row w2 w.heap.size (j * 9 + 2) _ _ hcs2
      have g3 := frozen_of_row w2 w.heap.size (j * 9 + 3) _ _ hcs2
      have g4 := frozen_of_row w2 w.heap.size (j * 9 + 4) _ _ hcs2
      have g5 := frozen_of_row w2 w.heap.size (j * 9 + 5) _ _ hcs2
      have g6 := frozen_of_row w2 w.heap.size (j * 9 + 6) _ _ hcs2
      have g7 := frozen_of_row w2 w.heap.size (j * 9 + 7) _ _ hcs2
      have g8 := frozen_of_row w2 w.heap.size (j * 9 + 8) _ _ hcs2
      have HB2 := hide hb2
      have HR2 := hide hR2
      have Hf2 := hide hf2
      have Hcs0 := hide hcs
      clear hb2 hR2 hf2 hcs hcs2 ho
      go_wp2_with fail
      have hst := copy_step (w := w) (EqnR.good D) Hx.out Hel.out Hfr.out Hcs0.out hcz Hb.out HB2.out HR2.out Hf2.out rfl
      exact ⟨⟨j + 1, F' ++ F2, by omega, by go_num, hide hst.1, hide hst.2.1, hide hst.2.2.1, hide hst.2.2.2⟩, by simp [intOf]; omega⟩
    · have hjl : j = l.length := by omega
      subst hjl
      have Hel' : Hid (ElR 9 (EqnR D) wr w.heap.size 0 l F') := by have := Hel.out; rw [List.take_length] at this; exact hide this
      go_wp2_with fail
      go_ret
      obtain ⟨cs, hcs, _⟩ := Hbk.out
      obtain ⟨G, hG, hGf⟩ := copy_done (w := w) (by unfold maxLen; omega) Hel'.out Hfr.out hcs
      exact ⟨_, G, rfl, hG, hGf, Hb.out⟩
structure Con where
  symbol : ByteArray
  name : ByteArray
  target : Ex
  value : Ex
structure Con.ok (x : Con) : Prop where
  symbol : x.symbol.size ≤ maxLen
  name : x.name.size ≤ maxLen
def ConR (D : Nat) : CR Con := fun w x cs F => ∃ (F2 : List Nat) (F3 : List Nat), cs.length = 16 ∧ x.ok ∧ cs[0]? = some (.string x.symbol) ∧ cs[1]? = some (.string x.name) ∧ ExR D w x.target ((cs.drop 2).take 7) F2 ∧ ExR D w x.value ((cs.drop 9).take 7) F3 ∧ F = F2 ++ (F3)
theorem ConR.good (D : Nat) : Good 16 (ConR D) where
  len := fun {w x cs F} h => by
    obtain ⟨F2, F3, hl, hk, h0, h1, h2, h3, rfl⟩ := h
    exact hl
  frame := fun {w w' x cs F} h he hz => by
    obtain ⟨F2, F3, hl, hk, h0, h1, h2, h3, rfl⟩ := h
    exact ⟨F2, F3, hl, hk, h0, h1, (ExR.good D).frame h2 (fun k hk' => he k (by simp only [List.mem_append]; simp [hk'])) hz, (ExR.good D).frame h3 (fun k hk' => he k (by simp only [List.mem_append]; simp [hk'])) hz, rfl⟩
  lt := fun {w x cs F} h b hb => by
    obtain ⟨F2, F3, hl, hk, h0, h1, h2, h3, rfl⟩ := h
    rcases List.mem_append.1 hb with hb | hb
    · exact (ExR.good D).lt h2 b hb
    · exact (ExR.good D).lt h3 b hb
theorem ConR.up {D : Nat} {w : World} {x : Con} {cs : List Value} {F : List Nat} (h : ConR D w x cs F) (D' : Nat) (hd : D ≤ D') : ConR D' w x cs F := by
  obtain ⟨F2, F3, hl, hk, h0, h1, h2, h3, rfl⟩ := h
  exact ⟨F2, F3, hl, hk, h0, h1, h2.up _ hd, h3.up _ hd, rfl⟩
theorem ConR.one {D : Nat} {w : World} {x : Con} {cs : List Value} {F : List Nat} (h : ConR D w x cs F) : ∀ v ∈ cs, v.oneCell' = true := by
  obtain ⟨c0, c1, c2, c3, c4, c5, c6, c7, c8, c9, c10, c11, c12, c13, c14, c15, rfl⟩ := list_16 ((ConR.good D).len h)
  obtain ⟨F2, F3, hl, hk, h0, h1, h2, h3, rfl⟩ := h
  intro v hv
  simp only [List.mem_cons, List.not_mem_nil, or_false] at hv
  rcases hv with rfl | rfl | rfl | rfl | rfl | rfl | rfl | rfl | rfl | rfl | rfl | rfl | rfl | rfl | rfl | rfl
  · obtain rfl := Option.some.inj h0
    rfl
  · obtain rfl := Option.some.inj h1
    rfl
  · exact ExR.one h2 _ (by simp)
  · exact ExR.one h2 _ (by simp)
  · exact ExR.one h2 _ (by simp)
  · exact ExR.one h2 _ (by simp)
  · exact ExR.one h2 _ (by simp)
  · exact ExR.one h2 _ (by simp)
  · exact ExR.one h2 _ (by simp)
  · exact ExR.one h3 _ (by simp)
  · exact ExR.one h3 _ (by simp)
  · exact ExR.one h3 _ (by simp)
  · exact ExR.one h3 _ (by simp)
  · exact ExR.one h3 _ (by simp)
  · exact ExR.one h3 _ (by simp)
  · exact ExR.one h3 _ (by simp)
def bulkCon (D : Nat) (x : Con) : Int := (x.symbol.size : Int) + (x.name.size : Int) + bulkE D x.target + bulkE D x.value
theorem bulkCon_nonneg (D : Nat) (x : Con) : 0 ≤ bulkCon D x := by unfold bulkCon; have := bulkE_nonneg D x.target; have := bulkE_nonneg D x.value; omega
theorem cells_Con {H : Type} {enc : TypeId × Value → H} {w : World} {base : Nat} {sp : Nat → Bool} {held : Bool} (fuel : Nat) {cs : List Value} {x : DataW H × List MemPlace}
    (h : DataW.trod enc Tryz.prog w base sp held fuel 142 cs = some x) : ∃ y F, ConR fuel w y cs F := by
  have ht := Tryz.underlying142
  have hl := (trod_len ht h).trans (show Tryz.prog.cellsOf 142 = 16 by kernel_rfl)
  obtain ⟨c0, c1, c2, c3, c4, c5, c6, c7, c8, c9, c10, c11, c12, c13, c14, c15, rfl⟩ := list_16 hl
  obtain ⟨z0, e0, w0⟩ := field_string 0 _ ht h rfl Tryz.underlying9 (by kernel_rfl)
  obtain ⟨z1, e1, w1⟩ := field_string 1 _ ht h rfl Tryz.underlying9 (by kernel_rfl)
  obtain ⟨n2, y2, hn2, k2⟩ := trod_field 2 _ ht h rfl
  have k2 : DataW.trod enc Tryz.prog w base sp held n2 137 (([c0, c1, c2, c3, c4, c5, c6, c7, c8, c9, c10, c11, c12, c13, c14, c15].drop 2).take (Tryz.prog.cellsOf 137)) = some y2 := k2
  rw [show Tryz.prog.cellsOf 137 = 7 by kernel_rfl] at k2
  obtain ⟨z2, G2, r2⟩ := cells_Expr n2 k2
  obtain ⟨n3, y3, hn3, k3⟩ := trod_field 3 _ ht h rfl
  have k3 : DataW.trod enc Tryz.prog w base sp held n3 137 (([c0, c1, c2, c3, c4, c5, c6, c7, c8, c9, c10, c11, c12, c13, c14, c15].drop 9).take (Tryz.prog.cellsOf 137)) = some y3 := k3
  rw [show Tryz.prog.cellsOf 137 = 7 by kernel_rfl] at k3
  obtain ⟨z3, G3, r3⟩ := cells_Expr n3 k3
  simp at e0 e1
  subst e0 e1
  exact ⟨⟨z0, z1, z2, z3⟩, _, G2, G3, rfl, ⟨w0, w1⟩, rfl, rfl, r2.up fuel (by omega), r3.up fuel (by omega), rfl⟩
set_option maxRecDepth 100000 in
theorem open_Con {H : Type} {enc : TypeId × Value → H} {w : World} {C base : Nat} {sp : Nat → Bool} {held : Bool} {v : Value} {d : DataW H} {p : List MemPlace} (hv : Value.okWide Tryz.prog w .any C 142 v)
    (h : DataW.Trod enc Tryz.prog w base sp held 142 v d p) : ∃ (D : Nat) (y : Con) (cs : List Value) (F : List Nat), v = .agg cs.toArray ∧ ConR D w y cs F := by
  obtain ⟨cs, fuel, x, rfl, hf⟩ := okWide_cells Tryz.underlying142 hv h
  obtain ⟨y, F, he⟩ := cells_Con fuel hf
  exact ⟨fuel, y, _, F, rfl, he⟩
set_option maxRecDepth 100000 in
theorem z_Con (D : Nat) (x : Con) (cs : List Value) (F : List Nat) (w : World) (L : Int) (h : ConR D w x cs F) (h0 : 0 ≤ L) (h1 : L ≤ 1048576) :
    Calls Tryz.prog 101 #[.agg cs.toArray, .int .i64 L] w fun en w' => Sized (bulkCon D x) L en ∧ Below w.heap.size w w' := by
  obtain ⟨c0, c1, c2, c3, c4, c5, c6, c7, c8, c9, c10, c11, c12, c13, c14, c15, rfl⟩ := list_16 ((ConR.good D).len h)
  obtain ⟨F2, F3, _, hk, h0, h1, h2, h3, rfl⟩ := h
  obtain rfl := Option.some.inj h0
  obtain rfl := Option.some.inj h1
  have hs_symbol := hk.symbol
  have hs_name := hk.name
  unfold maxLen at hs_symbol hs_name
  clear hk
  have HF2 := hide ((ExR.good D).lt h2)
  have HX2 : Hid (∀ W : World, Below w.heap.size w W → ExR D W x.target [c2, c3, c4, c5, c6, c7, c8] F2) := hide fun W hW => (ExR.good D).below h2 hW HF2.out
  clear h2
  have HF3 := hide ((ExR.good D).lt h3)
  have HX3 : Hid (∀ W : World, Below w.heap.size w W → ExR D W x.value [c9, c10, c11, c12, c13, c14, c15] F3) := hide fun W hW => (ExR.good D).below h3 hW HF3.out
  clear h3
  obtain ⟨C, hz0, hw0⟩ := boxes1 w [.string x.symbol, .string x.name, c2, c3, c4, c5, c6, c7, c8, c9, c10, c11, c12, c13, c14, c15] 142
  show Calls _ _ #[.agg #[.string x.symbol, .string x.name, c2, c3, c4, c5, c6, c7, c8, c9, c10, c11, c12, c13, c14, c15], .int .i64 L] w _
  by_cases q_symbol : L < x.symbol.size
  · go_enter Tryz.func101, Tryz.ntmps101
    go_wp2_with fail
    go_ret
    exact ⟨⟨-1, rfl, .inl rfl⟩, hw0⟩
  by_cases q_name : L - x.symbol.size < x.name.size
  · go_enter Tryz.func101, Tryz.ntmps101
    go_wp2_with fail
    go_ret
    exact ⟨⟨-1, rfl, .inl rfl⟩, hw0⟩
  go_enter Tryz.func101, Tryz.ntmps101
  go_wp2_with fail
  generalize w.alloc (Obj.cells #[.string x.symbol, .string x.name, c2, c3, c4, c5, c6, c7, c8, c9, c10, c11, c12, c13, c14, c15] 142) = W0 at C hz0 hw0 ⊢
  have hn0 : (w.heap.size + 1) ≤ W0.heap.size := by omega
  have Hw : Hid (∀ W : World, Below (w.heap.size + 1) W0 W → Below w.heap.size w W) := hide fun W h => hw0.trans (h.mono (by omega))
  have hB0 : Below (w.heap.size + 1) W0 W0 := Below.refl _ _
  have e2 := cell_rule C (n := (w.heap.size + 1)) (by omega) 2 (v := c2) rfl
  have e3 := cell_rule C (n := (w.heap.size + 1)) (by omega) 3 (v := c3) rfl
  have e4 := cell_rule C (n := (w.heap.size + 1)) (by omega) 4 (v := c4) rfl
  have e5 := cell_rule C (n := (w.heap.size + 1)) (by omega) 5 (v := c5) rfl
  have e6 := cell_rule C (n := (w.heap.size + 1)) (by omega) 6 (v := c6) rfl
  have e7 := cell_rule C (n := (w.heap.size + 1)) (by omega) 7 (v := c7) rfl
  have e8 := cell_rule C (n := (w.heap.size + 1)) (by omega) 8 (v := c8) rfl
  have e9 := cell_rule C (n := (w.heap.size + 1)) (by omega) 9 (v := c9) rfl
  have e10 := cell_rule C (n := (w.heap.size + 1)) (by omega) 10 (v := c10) rfl
  have e11 := cell_rule C (n := (w.heap.size + 1)) (by omega) 11 (v := c11) rfl
  have e12 := cell_rule C (n := (w.heap.size + 1)) (by omega) 12 (v := c12) rfl
  have e13 := cell_rule C (n := (w.heap.size + 1)) (by omega) 13 (v := c13) rfl
  have e14 := cell_rule C (n := (w.heap.size + 1)) (by omega) 14 (v := c14) rfl
  have e15 := cell_rule C (n := (w.heap.size + 1)) (by omega) 15 (v := c15) rfl
  clear C hz0 hw0
  refine Calls.mono (l_szExpr D x.target _ F2 _ (L - x.symbol.size - x.name.size) (HX2.out _ (Hw.out _ hB0)) (by omega) (by omega)) ?_
  rintro en W1 ⟨⟨r0, rfl, hr⟩, hb⟩
  have hB1 : Below (w.heap.size + 1) W0 W1 := below_step hB0 hn0 hb
  clear hb
  rcases hr with rfl | ⟨hr0, hq0⟩
  · go_wp2_with fail
    go_ret
    exact ⟨⟨-1, rfl, .inl rfl⟩, Hw.out _ hB1⟩
  have hn2 := bulkE_nonneg D x.target
  have hl0 : r0 ≤ 1048576 := by omega
  have Hq0 := hide hq0
  clear hq0 hn2
  go_wp2_with fail
  refine Calls.mono (l_szExpr D x.value _ F3 _ (r0) (HX3.out _ (Hw.out _ hB1)) (by omega) (by omega)) ?_
  rintro en W2 ⟨⟨r1, rfl, hr⟩, hb⟩
  have hB2 : Below (w.heap.size + 1) W0 W2 := below_step hB1 hn0 hb
  clear hb
  rcases hr with rfl | ⟨hr1, hq1⟩
  · go_wp2_with fail
    go_ret
    exact ⟨⟨-1, rfl, .inl rfl⟩, Hw.out _ hB2⟩
  have hn3 := bulkE_nonneg D x.value
  have hl1 : r1 ≤ 1048576 := by omega
  have Hq1 := hide hq1
  clear hq1 hn3
  go_wp2_with fail
  go_ret
  exact ⟨⟨_, rfl, .inr ⟨by omega, by have := Hq0.out; have := Hq1.out; unfold bulkCon; omega⟩⟩, Hw.out _ hB2⟩
set_option maxRecDepth 100000 in
theorem zs_Con (D : Nat) (l : List Con) (v : Value) (F : List Nat) (w : World) (L : Int) (hs : SlR 16 (ConR D) w l v F) (h0 : 0 ≤ L) (h1 : L ≤ 1048576) :
    Calls Tryz.prog 64 #[v, .int .i64 L] w fun en w' => Sized (l.length + sumBy (bulkCon D) l) L en ∧ Below w.heap.size w w' := by
  obtain ⟨A, cap, rfl, hlc, hm⟩ := hs.form
  have HF := hide (hs.lt (ConR.good D))
  unfold maxLen at hm
  have Hs := hide hs
  have Hnn := hide (bulkCon_nonneg D)
  clear hs
  by_cases hn : L < l.length
  · go_enter Tryz.func64, Tryz.ntmps64
    go_wp2_with fail
    go_ret
    exact ⟨⟨-1, rfl, .inl rfl⟩, Below.refl _ _⟩
  go_enter Tryz.func64, Tryz.ntmps64
  go_wp2_with fail
  go_loopw [1, 5] (fun c i wr => ∃ j : Nat, j ≤ l.length ∧ i = .int .i64 j ∧ c = .int .i64 (L - l.length - sumBy (bulkCon D) (l.take j)) ∧ 0 ≤ L - l.length - sumBy (bulkCon D) (l.take j) ∧ Hid (Below w.heap.size w wr)) (fun _ i _ => l.length - (intOf i).toNat)
  case atStart => exact ⟨0, by omega, rfl, by simp [sumBy], by simp [sumBy]; omega, hide (Below.refl _ _)⟩
  case round =>
    obtain ⟨j, hj, rfl, rfl, hge, Hb⟩ := hrel
    have hpos := sumBy_nonneg Hnn.out (l.take j)
    by_cases hlt : j < l.length
    · have hx : l[j]? = some l[j] := List.getElem?_eq_getElem hlt
      generalize l[j] = x at hx
      have Hsum := hide (sumBy_take_succ (f := bulkCon D) hx)
      have hcx := Hnn.out x
      obtain ⟨b, off, cs, Fk, hA, _, hbF, hFk, hcl, hcat, hR⟩ := SlR.get (ConR.good D) (Hs.out.below (ConR.good D) Hb.out HF.out) hx
      subst hA
      obtain ⟨c0, c1, c2, c3, c4, c5, c6, c7, c8, c9, c10, c11, c12, c13, c14, c15, rfl⟩ := list_16 hcl
      have e0 : wr.cell? ⟨b, off + j * 16, none⟩ = some c0 := hcat 0 _ rfl
      have e1 : wr.cell? ⟨b, off + j * 16 + 1, none⟩ = some c1 := hcat 1 _ rfl
      have e2 : wr.cell? ⟨b, off + j * 16 + 2, none⟩ = some c2 := hcat 2 _ rfl
      have e3 : wr.cell? ⟨b, off + j * 16 + 3, none⟩ = some c3 := hcat 3 _ rfl
      have e4 : wr.cell? ⟨b, off + j * 16 + 4, none⟩ = some c4 := hcat 4 _ rfl
      have e5 : wr.cell? ⟨b, off + j * 16 + 5, none⟩ = some c5 := hcat 5 _ rfl
      have e6 : wr.cell? ⟨b, off + j * 16 + 6, none⟩ = some c6 := hcat 6 _ rfl
      have e7 : wr.cell? ⟨b, off + j * 16 + 7, none⟩ = some c7 := hcat 7 _ rfl
      have e8 : wr.cell? ⟨b, off + j * 16 + 8, none⟩ = some c8 := hcat 8 _ rfl
      have e9 : wr.cell? ⟨b, off + j * 16 + 9, none⟩ = some c9 := hcat 9 _ rfl
      have e10 : wr.cell? ⟨b, off + j * 16 + 10, none⟩ = some c10 := hcat 10 _ rfl
      have e11 : wr.cell? ⟨b, off + j * 16 + 11, none⟩ = some c11 := hcat 11 _ rfl
      have e12 : wr.cell? ⟨b, off + j * 16 + 12, none⟩ = some c12 := hcat 12 _ rfl
      have e13 : wr.cell? ⟨b, off + j * 16 + 13, none⟩ = some c13 := hcat 13 _ rfl
      have e14 : wr.cell? ⟨b, off + j * 16 + 14, none⟩ = some c14 := hcat 14 _ rfl
      have e15 : wr.cell? ⟨b, off + j * 16 + 15, none⟩ = some c15 := hcat 15 _ rfl
      have hblt := Nat.lt_of_lt_of_le (HF.out b hbF) Hb.out.size
      have HR := hide hR
      clear hx hR hcat hFk hbF hcl
      go_wp2_with fail
      refine Calls.mono (z_Con D x _ Fk _ (L - l.length - sumBy (bulkCon D) (l.take j)) HR.out (by omega) (by omega)) ?_
      rintro en w2 ⟨⟨r, rfl, hr⟩, hb2⟩
      have HB2 : Hid (Below w.heap.size w w2) := hide (Hb.out.trans (hb2.mono Hb.out.size))
      clear hb2
      rcases hr with rfl | ⟨hr0, hr1⟩
      · go_wp2_with fail
        go_ret
        exact ⟨⟨-1, rfl, .inl rfl⟩, HB2.out⟩
      · have Hr1 := hide hr1
        clear hr1
        go_wp2_with fail
        go_roundw
        case rel => exact ⟨j + 1, by omega, by go_num, by rw [Hsum.out, Hr1.out]; go_num, by rw [Hsum.out]; have := Hr1.out; omega, HB2⟩
        case measure => simp [intOf]; omega
    · have hjl : j = l.length := by omega
      rw [hjl, List.take_length] at hge
      rw [hjl, List.take_length]
      go_wp2_with fail
      go_ret
      exact ⟨⟨_, rfl, .inr ⟨hge, by omega⟩⟩, Hb.out⟩
set_option maxRecDepth 100000 in
theorem e_Con (D : Nat) (x : Con) (cs cs' : List Value) (F F' : List Nat) (w : World) (h : ConR D w x cs F) (h' : ConR D w x cs' F') :
    Calls Tryz.prog 128 #[.agg cs.toArray, .agg cs'.toArray] w fun en w' => en = .returned (.bool true) ∧ Below w.heap.size w w' := by
  obtain ⟨a0, a1, a2, a3, a4, a5, a6, a7, a8, a9, a10, a11, a12, a13, a14, a15, rfl⟩ := list_16 ((ConR.good D).len h)
  obtain ⟨F2, F3, _, hk, h0, h1, h2, h3, rfl⟩ := h
  obtain rfl := Option.some.inj h0
  obtain rfl := Option.some.inj h1
  obtain ⟨b0, b1, b2, b3, b4, b5, b6, b7, b8, b9, b10, b11, b12, b13, b14, b15, rfl⟩ := list_16 ((ConR.good D).len h')
  obtain ⟨pF2, pF3, _, phk, ph0, ph1, ph2, ph3, rfl⟩ := h'
  obtain rfl := Option.some.inj ph0
  obtain rfl := Option.some.inj ph1
  have HF2 := hide ((ExR.good D).lt h2)
  have HXF2 : Hid (∀ W : World, Below w.heap.size w W → ExR D W x.target [a2, a3, a4, a5, a6, a7, a8] F2) := hide fun W hW => (ExR.good D).below h2 hW HF2.out
  clear h2
  have HF3 := hide ((ExR.good D).lt h3)
  have HXF3 : Hid (∀ W : World, Below w.heap.size w W → ExR D W x.value [a9, a10, a11, a12, a13, a14, a15] F3) := hide fun W hW => (ExR.good D).below h3 hW HF3.out
  clear h3
  have HpF2 := hide ((ExR.good D).lt ph2)
  have HXpF2 : Hid (∀ W : World, Below w.heap.size w W → ExR D W x.target [b2, b3, b4, b5, b6, b7, b8] pF2) := hide fun W hW => (ExR.good D).below ph2 hW HpF2.out
  clear ph2
  have HpF3 := hide ((ExR.good D).lt ph3)
  have HXpF3 : Hid (∀ W : World, Below w.heap.size w W → ExR D W x.value [b9, b10, b11, b12, b13, b14, b15] pF3) := hide fun W hW => (ExR.good D).below ph3 hW HpF3.out
  clear ph3
  obtain ⟨C1, C2, hz0, hw0⟩ := boxes2 w [.string x.symbol, .string x.name, a2, a3, a4, a5, a6, a7, a8, a9, a10, a11, a12, a13, a14, a15] [.string x.symbol, .string x.name, b2, b3, b4, b5, b6, b7, b8, b9, b10, b11, b12, b13, b14, b15] 107 107
  show Calls _ _ #[.agg #[.string x.symbol, .string x.name, a2, a3, a4, a5, a6, a7, a8, a9, a10, a11, a12, a13, a14, a15], .agg #[.string x.symbol, .string x.name, b2, b3, b4, b5, b6, b7, b8, b9, b10, b11, b12, b13, b14, b15]] w _
  go_enter Tryz.func128, Tryz.ntmps128
  go_wp2_with fail
  generalize (w.alloc (Obj.cells #[.string x.symbol, .string x.name, a2, a3, a4, a5, a6, a7, a8, a9, a10, a11, a12, a13, a14, a15] 107)).alloc (Obj.cells #[.string x.symbol, .string x.name, b2, b3, b4, b5, b6, b7, b8, b9, b10, b11, b12, b13, b14, b15] 107) = W0 at C1 C2 hz0 hw0 ⊢
  have hn0 : (w.heap.size + 2) ≤ W0.heap.size := by omega
  have Hw : Hid (∀ W : World, Below (w.heap.size + 2) W0 W → Below w.heap.size w W) := hide fun W h => hw0.trans (h.mono (by omega))
  have hB0 : Below (w.heap.size + 2) W0 W0 := Below.refl _ _
  have e0 := cell_rule C1 (n := (w.heap.size + 2)) (by omega) 0 (v := (.string x.symbol)) rfl
  have g0 := cell_rule C2 (n := (w.heap.size + 2)) (by omega) 0 (v := (.string x.symbol)) rfl
  have e1 := cell_rule C1 (n := (w.heap.size + 2)) (by omega) 1 (v := (.string x.name)) rfl
  have g1 := cell_rule C2 (n := (w.heap.size + 2)) (by omega) 1 (v := (.string x.name)) rfl
  have e2 := cell_rule C1 (n := (w.heap.size + 2)) (by omega) 2 (v := a2) rfl
  have g2 := cell_rule C2 (n := (w.heap.size + 2)) (by omega) 2 (v := b2) rfl
  have e3 := cell_rule C1 (n := (w.heap.size + 2)) (by omega) 3 (v := a3) rfl
  have g3 := cell_rule C2 (n := (w.heap.size + 2)) (by omega) 3 (v := b3) rfl
  have e4 := cell_rule C1 (n := (w.heap.size + 2)) (by omega) 4 (v := a4) rfl
  have g4 := cell_rule C2 (n := (w.heap.size + 2)) (by omega) 4 (v := b4) rfl
  have e5 := cell_rule C1 (n := (w.heap.size + 2)) (by omega) 5 (v := a5) rfl
  have g5 := cell_rule C2 (n := (w.heap.size + 2)) (by omega) 5 (v := b5) rfl
  have e6 := cell_rule C1 (n := (w.heap.size + 2)) (by omega) 6 (v := a6) rfl
  have g6 := cell_rule C2 (n := (w.heap.size + 2)) (by omega) 6 (v := b6) rfl
  have e7 := cell_rule C1 (n := (w.heap.size + 2)) (by omega) 7 (v := a7) rfl
  have g7 := cell_rule C2 (n := (w.heap.size + 2)) (by omega) 7 (v := b7) rfl
  have e8 := cell_rule C1 (n := (w.heap.size + 2)) (by omega) 8 (v := a8) rfl
  have g8 := cell_rule C2 (n := (w.heap.size + 2)) (by omega) 8 (v := b8) rfl
  have e9 := cell_rule C1 (n := (w.heap.size + 2)) (by omega) 9 (v := a9) rfl
  have g9 := cell_rule C2 (n := (w.heap.size + 2)) (by omega) 9 (v := b9) rfl
  have e10 := cell_rule C1 (n := (w.heap.size + 2)) (by omega) 10 (v := a10) rfl
  have g10 := cell_rule C2 (n := (w.heap.size + 2)) (by omega) 10 (v := b10) rfl
  have e11 := cell_rule C1 (n := (w.heap.size + 2)) (by omega) 11 (v := a11) rfl
  have g11 := cell_rule C2 (n := (w.heap.size + 2)) (by omega) 11 (v := b11) rfl
  have e12 := cell_rule C1 (n := (w.heap.size + 2)) (by omega) 12 (v := a12) rfl
  have g12 := cell_rule C2 (n := (w.heap.size + 2)) (by omega) 12 (v := b12) rfl
  have e13 := cell_rule C1 (n := (w.heap.size + 2)) (by omega) 13 (v := a13) rfl
  have g13 := cell_rule C2 (n := (w.heap.size + 2)) (by omega) 13 (v := b13) rfl
  have e14 := cell_rule C1 (n := (w.heap.size + 2)) (by omega) 14 (v := a14) rfl
  have g14 := cell_rule C2 (n := (w.heap.size + 2)) (by omega) 14 (v := b14) rfl
  have e15 := cell_rule C1 (n := (w.heap.size + 2)) (by omega) 15 (v := a15) rfl
  have g15 := cell_rule C2 (n := (w.heap.size + 2)) (by omega) 15 (v := b15) rfl
  clear C1 C2 hz0 hw0
  refine Calls.mono (ee_Ex D x.target _ _ F2 pF2 _ (HXF2.out _ (Hw.out _ hB0)) (HXpF2.out _ (Hw.out _ hB0))) ?_
  rintro en W1 ⟨rfl, hb⟩
  have hB1 : Below (w.heap.size + 2) W0 W1 := below_step hB0 hn0 hb
  clear hb
  go_wp2_with fail
  refine Calls.mono (ee_Ex D x.value _ _ F3 pF3 _ (HXF3.out _ (Hw.out _ hB1)) (HXpF3.out _ (Hw.out _ hB1))) ?_
  rintro en W2 ⟨rfl, hb⟩
  have hB2 : Below (w.heap.size + 2) W0 W2 := below_step hB1 hn0 hb
  clear hb
  go_wp2_with fail
  go_ret
  exact ⟨rfl, Hw.out _ hB2⟩
set_option maxRecDepth 100000 in
theorem es_Con (D : Nat) (l : List Con) (v v' : Value) (F F' : List Nat) (w : World) (hs : SlR 16 (ConR D) w l v F) (hs' : SlR 16 (ConR D) w l v' F') :
    Calls Tryz.prog 98 #[v, v'] w fun en w' => en = .returned (.bool true) ∧ Below w.heap.size w w' := by
  obtain ⟨A, cap, rfl, hlc, hm⟩ := hs.form
  obtain ⟨A', cap', rfl, hlc', hm'⟩ := hs'.form
  have HF := hide (hs.lt (ConR.good D))
  have HF' := hide (hs'.lt (ConR.good D))
  unfold maxLen at hm hm'
  have Hs := hide hs
  have Hs' := hide hs'
  clear hs hs'
  go_enter Tryz.func98, Tryz.ntmps98
  go_wp2_with fail
  go_loopw [5] (fun i wr => ∃ j : Nat, j ≤ l.length ∧ i = .int .i64 j ∧ Hid (Below w.heap.size w wr)) (fun i _ => l.length - (intOf i).toNat)
  case atStart => exact ⟨0, by omega, rfl, hide (Below.refl _ _)⟩
  case round =>
    obtain ⟨j, hj, rfl, Hb⟩ := hrel
    by_cases hlt : j < l.length
    · have hx : l[j]? = some l[j] := List.getElem?_eq_getElem hlt
      generalize l[j] = x at hx
      obtain ⟨b, off, cs, Fk, hA, _, hbF, hFk, hcl, hcat, hR⟩ := SlR.get (ConR.good D) (Hs.out.below (ConR.good D) Hb.out HF.out) hx
      subst hA
      obtain ⟨a0, a1, a2, a3, a4, a5, a6, a7, a8, a9, a10, a11, a12, a13, a14, a15, rfl⟩ := list_16 hcl
      obtain ⟨b', off', cs', Fk', hA, _, hbF', hFk', hcl', hcat', hR'⟩ := SlR.get (ConR.good D) (Hs'.out.below (ConR.good D) Hb.out HF'.out) hx
      subst hA
      obtain ⟨b0, b1, b2, b3, b4, b5, b6, b7, b8, b9, b10, b11, b12, b13, b14, b15, rfl⟩ := list_16 hcl'
      have hblt := Nat.lt_of_lt_of_le (HF.out b hbF) Hb.out.size
      have hblt' := Nat.lt_of_lt_of_le (HF'.out b' hbF') Hb.out.size
      have e0 : ∀ W : World, Below wr.heap.size wr W → W.cell? ⟨b, off + j * 16, none⟩ = some a0 := fun W h => (hcat.below h hblt) 0 _ rfl
      have e1 : ∀ W : World, Below wr.heap.size wr W → W.cell? ⟨b, off + j * 16 + 1, none⟩ = some a1 := fun W h => (hcat.below h hblt) 1 _ rfl
      have e2 : ∀ W : World, Below wr.heap.size wr W → W.cell? ⟨b, off + j * 16 + 2, none⟩ = some a2 := fun W h => (hcat.below h hblt) 2 _ rfl
      have e3 : ∀ W : World, Below wr.heap.size wr W → W.cell? ⟨b, off + j * 16 + 3, none⟩ = some a3 := fun W h => (hcat.below h hblt) 3 _ rfl
      have e4 : ∀ W : World, Below wr.heap.size wr W → W.cell? ⟨b, off + j * 16 + 4, none⟩ = some a4 := fun W h => (hcat.below h hblt) 4 _ rfl
      have e5 : ∀ W : World, Below wr.heap.size wr W → W.cell? ⟨b, off + j * 16 + 5, none⟩ = some a5 := fun W h => (hcat.below h hblt) 5 _ rfl
      have e6 : ∀ W : World, Below wr.heap.size wr W → W.cell? ⟨b, off + j * 16 + 6, none⟩ = some a6 := fun W h => (hcat.below h hblt) 6 _ rfl
      have e7 : ∀ W : World, Below wr.heap.size wr W → W.cell? ⟨b, off + j * 16 + 7, none⟩ = some a7 := fun W h => (hcat.below h hblt) 7 _ rfl
      have e8 : ∀ W : World, Below wr.heap.size wr W → W.cell? ⟨b, off + j * 16 + 8, none⟩ = some a8 := fun W h => (hcat.below h hblt) 8 _ rfl
      have e9 : ∀ W : World, Below wr.heap.size wr W → W.cell? ⟨b, off + j * 16 + 9, none⟩ = some a9 := fun W h => (hcat.below h hblt) 9 _ rfl
      have e10 : ∀ W : World, Below wr.heap.size wr W → W.cell? ⟨b, off + j * 16 + 10, none⟩ = some a10 := fun W h => (hcat.below h hblt) 10 _ rfl
      have e11 : ∀ W : World, Below wr.heap.size wr W → W.cell? ⟨b, off + j * 16 + 11, none⟩ = some a11 := fun W h => (hcat.below h hblt) 11 _ rfl
      have e12 : ∀ W : World, Below wr.heap.size wr W → W.cell? ⟨b, off + j * 16 + 12, none⟩ = some a12 := fun W h => (hcat.below h hblt) 12 _ rfl
      have e13 : ∀ W : World, Below wr.heap.size wr W → W.cell? ⟨b, off + j * 16 + 13, none⟩ = some a13 := fun W h => (hcat.below h hblt) 13 _ rfl
      have e14 : ∀ W : World, Below wr.heap.size wr W → W.cell? ⟨b, off + j * 16 + 14, none⟩ = some a14 := fun W h => (hcat.below h hblt) 14 _ rfl
      have e15 : ∀ W : World, Below wr.heap.size wr W → W.cell? ⟨b, off + j * 16 + 15, none⟩ = some a15 := fun W h => (hcat.below h hblt) 15 _ rfl
      have g0 : ∀ W : World, Below wr.heap.size wr W → W.cell? ⟨b', off' + j * 16, none⟩ = some b0 := fun W h => (hcat'.below h hblt') 0 _ rfl
      have g1 : ∀ W : World, Below wr.heap.size wr W → W.cell? ⟨b', off' + j * 16 + 1, none⟩ = some b1 := fun W h => (hcat'.below h hblt') 1 _ rfl
      have g2 : ∀ W : World, Below wr.heap.size wr W → W.cell? ⟨b', off' + j * 16 + 2, none⟩ = some b2 := fun W h => (hcat'.below h hblt') 2 _ rfl
      have g3 : ∀ W : World, Below wr.heap.size wr W → W.cell? ⟨b', off' + j * 16 + 3, none⟩ = some b3 := fun W h => (hcat'.below h hblt') 3 _ rfl
      have g4 : ∀ W : World, Below wr.heap.size wr W → W.cell? ⟨b', off' + j * 16 + 4, none⟩ = some b4 := fun W h => (hcat'.below h hblt') 4 _ rfl
      have g5 : ∀ W : World, Below wr.heap.size wr W → W.cell? ⟨b', off' + j * 16 + 5, none⟩ = some b5 := fun W h => (hcat'.below h hblt') 5 _ rfl
      have g6 : ∀ W : World, Below wr.heap.size wr W → W.cell? ⟨b', off' + j * 16 + 6, none⟩ = some b6 := fun W h => (hcat'.below h hblt') 6 _ rfl
      have g7 : ∀ W : World, Below wr.heap.size wr W → W.cell? ⟨b', off' + j * 16 + 7, none⟩ = some b7 := fun W h => (hcat'.below h hblt') 7 _ rfl
      have g8 : ∀ W : World, Below wr.heap.size wr W → W.cell? ⟨b', off' + j * 16 + 8, none⟩ = some b8 := fun W h => (hcat'.below h hblt') 8 _ rfl
      have g9 : ∀ W : World, Below wr.heap.size wr W → W.cell? ⟨b', off' + j * 16 + 9, none⟩ = some b9 := fun W h => (hcat'.below h hblt') 9 _ rfl
      have g10 : ∀ W : World, Below wr.heap.size wr W → W.cell? ⟨b', off' + j * 16 + 10, none⟩ = some b10 := fun W h => (hcat'.below h hblt') 10 _ rfl
      have g11 : ∀ W : World, Below wr.heap.size wr W → W.cell? ⟨b', off' + j * 16 + 11, none⟩ = some b11 := fun W h => (hcat'.below h hblt') 11 _ rfl
      have g12 : ∀ W : World, Below wr.heap.size wr W → W.cell? ⟨b', off' + j * 16 + 12, none⟩ = some b12 := fun W h => (hcat'.below h hblt') 12 _ rfl
      have g13 : ∀ W : World, Below wr.heap.size wr W → W.cell? ⟨b', off' + j * 16 + 13, none⟩ = some b13 := fun W h => (hcat'.below h hblt') 13 _ rfl
      have g14 : ∀ W : World, Below wr.heap.size wr W → W.cell? ⟨b', off' + j * 16 + 14, none⟩ = some b14 := fun W h => (hcat'.below h hblt') 14 _ rfl
      have g15 : ∀ W : World, Below wr.heap.size wr W → W.cell? ⟨b', off' + j * 16 + 15, none⟩ = some b15 := fun W h => (hcat'.below h hblt') 15 _ rfl
      have HR := hide hR
      have HR' := hide hR'
      have hj0 : (0 : Int) ≤ (j : Int) := by omega
      have hj1 : (j : Int) < (l.length : Int) := by omega
      have hBr : Below wr.heap.size wr wr := Below.refl _ _
      clear hx hR hR' hcat hcat' hFk hFk' hbF hbF' hcl hcl'
      go_wp2_with fail
      go_region_held3 (fun W => Below wr.heap.size wr W)
        (first | assumption | exact Below.drew (by assumption))
        ((go_at_call 128; refine Calls.mono (e_Con D x _ _ Fk Fk' _ ((ConR.good D).heap HR.out rfl) ((ConR.good D).heap HR'.out rfl)) ?_; rintro en w2 ⟨rfl, hb2⟩; have hB2 : Below wr.heap.size wr w2 := below_step (by (repeat (first | assumption | apply Below.drew))) (Nat.le_refl _) hb2; clear hb2))
      have HB2 : Hid (Below w.heap.size w w2) := hide (Hb.out.trans (hB2.mono Hb.out.size))
      clear hB2
      go_wp2_with fail
      go_roundw
      case rel => exact ⟨j + 1, by omega, by go_num, HB2⟩
      case measure => simp [intOf]; omega
    · go_wp2_with fail
      go_ret
      exact ⟨rfl, Hb.out⟩
set_option maxRecDepth 100000 in
theorem c_Con (D : Nat) (x : Con) (cs : List Value) (F : List Nat) (w : World) (h : ConR D w x cs F) (hbk : bulkCon D x ≤ 1048576) :
    Calls Tryz.prog 112 #[.agg cs.toArray] w fun en w' => ∃ us F', en = .returned (.agg (List.toArray us)) ∧ ConR D w' x us F' ∧ Fresh w.heap.size w' F' ∧ Below w.heap.size w w' := by
  obtain ⟨c0, c1, c2, c3, c4, c5, c6, c7, c8, c9, c10, c11, c12, c13, c14, c15, rfl⟩ := list_16 ((ConR.good D).len h)
  obtain ⟨F2, F3, _, hk, h0, h1, h2, h3, rfl⟩ := h
  obtain rfl := Option.some.inj h0
  obtain rfl := Option.some.inj h1
  have Hk := hide hk
  clear hk
  have Hbk := hide hbk
  clear hbk
  have HF0 := hide ((ExR.good D).lt h2)
  have HX0 : Hid (∀ W : World, Below w.heap.size w W → ExR D W x.target [c2, c3, c4, c5, c6, c7, c8] F2) := hide fun W hW => (ExR.good D).below h2 hW HF0.out
  clear h2
  have HF1 := hide ((ExR.good D).lt h3)
  have HX1 : Hid (∀ W : World, Below w.heap.size w W → ExR D W x.value [c9, c10, c11, c12, c13, c14, c15] F3) := hide fun W hW => (ExR.good D).below h3 hW HF1.out
  clear h3
  have Hb0 : Hid (bulkE D x.target ≤ 1048576) := hide (by
    have hb := Hbk.out
    unfold bulkCon at hb
    have := bulkE_nonneg D x.target; have := bulkE_nonneg D x.value
    omega)
  have Hb1 : Hid (bulkE D x.value ≤ 1048576) := hide (by
    have hb := Hbk.out
    unfold bulkCon at hb
    have := bulkE_nonneg D x.target; have := bulkE_nonneg D x.value
    omega)
  obtain ⟨C, hz0, hw0⟩ := boxes1 w [.string x.symbol, .string x.name, c2, c3, c4, c5, c6, c7, c8, c9, c10, c11, c12, c13, c14, c15] 142
  show Calls _ _ #[.agg #[.string x.symbol, .string x.name, c2, c3, c4, c5, c6, c7, c8, c9, c10, c11, c12, c13, c14, c15]] w _
  go_enter Tryz.func112, Tryz.ntmps112
  go_wp2_with fail
  have hA1 := heap_alloc_new (w.alloc (Obj.cells #[.string x.symbol, .string x.name, c2, c3, c4, c5, c6, c7, c8, c9, c10, c11, c12, c13, c14, c15] 142)) (Obj.cells #[.string ⟨#[]⟩, .string ⟨#[]⟩, .int .i64 0, .int .i64 0, .int .i64 0, .int .i64 0, .string ⟨#[]⟩, .string ⟨#[]⟩, .slice none 0 0, .int .i64 0, .int .i64 0, .int .i64 0, .int .i64 0, .string ⟨#[]⟩, .string ⟨#[]⟩, .slice none 0 0] 107)
  have hA2 := heap_alloc_new ((w.alloc (Obj.cells #[.string x.symbol, .string x.name, c2, c3, c4, c5, c6, c7, c8, c9, c10, c11, c12, c13, c14, c15] 142)).alloc (Obj.cells #[.string ⟨#[]⟩, .string ⟨#[]⟩, .int .i64 0, .int .i64 0, .int .i64 0, .int .i64 0, .string ⟨#[]⟩, .string ⟨#[]⟩, .slice none 0 0, .int .i64 0, .int .i64 0, .int .i64 0, .int .i64 0, .string ⟨#[]⟩, .string ⟨#[]⟩, .slice none 0 0] 107)) (Obj.cells #[.string x.symbol, .string x.name, .int .i64 0, .int .i64 0, .int .i64 0, .int .i64 0, .string ⟨#[]⟩, .string ⟨#[]⟩, .slice none 0 0, .int .i64 0, .int .i64 0, .int .i64 0, .int .i64 0, .string ⟨#[]⟩, .string ⟨#[]⟩, .slice none 0 0] 107)
  have hA0 : Below (w.heap.size + 1) (w.alloc (Obj.cells #[.string x.symbol, .string x.name, c2, c3, c4, c5, c6, c7, c8, c9, c10, c11, c12, c13, c14, c15] 142)) (((w.alloc (Obj.cells #[.string x.symbol, .string x.name, c2, c3, c4, c5, c6, c7, c8, c9, c10, c11, c12, c13, c14, c15] 142)).alloc (Obj.cells #[.string ⟨#[]⟩, .string ⟨#[]⟩, .int .i64 0, .int .i64 0, .int .i64 0, .int .i64 0, .string ⟨#[]⟩, .string ⟨#[]⟩, .slice none 0 0, .int .i64 0, .int .i64 0, .int .i64 0, .int .i64 0, .string ⟨#[]⟩, .string ⟨#[]⟩, .slice none 0 0] 107)).alloc (Obj.cells #[.string x.symbol, .string x.name, .int .i64 0, .int .i64 0, .int .i64 0, .int .i64 0, .string ⟨#[]⟩, .string ⟨#[]⟩, .slice none 0 0, .int .i64 0, .int .i64 0, .int .i64 0, .int .i64 0, .string ⟨#[]⟩, .string ⟨#[]⟩, .slice none 0 0] 107)) := ((Below.refl _ _).alloc (Nat.le_of_eq hz0.symm) _).alloc (by simp) _
  rw [hz0] at hA1
  have hA3 := (Below.heap_alloc ((w.alloc (Obj.cells #[.string x.symbol, .string x.name, c2, c3, c4, c5, c6, c7, c8, c9, c10, c11, c12, c13, c14, c15] 142)).alloc (Obj.cells #[.string ⟨#[]⟩, .string ⟨#[]⟩, .int .i64 0, .int .i64 0, .int .i64 0, .int .i64 0, .string ⟨#[]⟩, .string ⟨#[]⟩, .slice none 0 0, .int .i64 0, .int .i64 0, .int .i64 0, .int .i64 0, .string ⟨#[]⟩, .string ⟨#[]⟩, .slice none 0 0] 107)) (Obj.cells #[.string x.symbol, .string x.name, .int .i64 0, .int .i64 0, .int .i64 0, .int .i64 0, .string ⟨#[]⟩, .string ⟨#[]⟩, .slice none 0 0, .int .i64 0, .int .i64 0, .int .i64 0, .int .i64 0, .string ⟨#[]⟩, .string ⟨#[]⟩, .slice none 0 0] 107) (w.heap.size + 1) (by simp)).trans hA1
  have hz2 : (((w.alloc (Obj.cells #[.string x.symbol, .string x.name, c2, c3, c4, c5, c6, c7, c8, c9, c10, c11, c12, c13, c14, c15] 142)).alloc (Obj.cells #[.string ⟨#[]⟩, .string ⟨#[]⟩, .int .i64 0, .int .i64 0, .int .i64 0, .int .i64 0, .string ⟨#[]⟩, .string ⟨#[]⟩, .slice none 0 0, .int .i64 0, .int .i64 0, .int .i64 0, .int .i64 0, .string ⟨#[]⟩, .string ⟨#[]⟩, .slice none 0 0] 107)).alloc (Obj.cells #[.string x.symbol, .string x.name, .int .i64 0, .int .i64 0, .int .i64 0, .int .i64 0, .string ⟨#[]⟩, .string ⟨#[]⟩, .slice none 0 0, .int .i64 0, .int .i64 0, .int .i64 0, .int .i64 0, .string ⟨#[]⟩, .string ⟨#[]⟩, .slice none 0 0] 107)).heap.size = w.heap.size + 3 := by simp
  rw [World.size_alloc, hz0] at hA2
  clear hA1
  have hB0 := hA0
  generalize ((w.alloc (Obj.cells #[.string x.symbol, .string x.name, c2, c3, c4, c5, c6, c7, c8, c9, c10, c11, c12, c13, c14, c15] 142)).alloc (Obj.cells #[.string ⟨#[]⟩, .string ⟨#[]⟩, .int .i64 0, .int .i64 0, .int .i64 0, .int .i64 0, .string ⟨#[]⟩, .string ⟨#[]⟩, .slice none 0 0, .int .i64 0, .int .i64 0, .int .i64 0, .int .i64 0, .string ⟨#[]⟩, .string ⟨#[]⟩, .slice none 0 0] 107)).alloc (Obj.cells #[.string x.symbol, .string x.name, .int .i64 0, .int .i64 0, .int .i64 0, .int .i64 0, .string ⟨#[]⟩, .string ⟨#[]⟩, .slice none 0 0, .int .i64 0, .int .i64 0, .int .i64 0, .int .i64 0, .string ⟨#[]⟩, .string ⟨#[]⟩, .slice none 0 0] 107) = W0 at hA0 hA2 hA3 hz2 hB0 ⊢
  generalize w.alloc (Obj.cells #[.string x.symbol, .string x.name, c2, c3, c4, c5, c6, c7, c8, c9, c10, c11, c12, c13, c14, c15] 142) = U at C hz0 hw0 hA0 hB0
  have hn0 : (w.heap.size + 1) ≤ U.heap.size := by omega
  have Hw : Hid (∀ W : World, Below (w.heap.size + 1) U W → Below w.heap.size w W) := hide fun W h => hw0.trans (h.mono (by omega))
  have e0 := cell_rule C (n := (w.heap.size + 1)) (by omega) 0 (v := (.string x.symbol)) rfl
  have e1 := cell_rule C (n := (w.heap.size + 1)) (by omega) 1 (v := (.string x.name)) rfl
  have e2 := cell_rule C (n := (w.heap.size + 1)) (by omega) 2 (v := c2) rfl
  have e3 := cell_rule C (n := (w.heap.size + 1)) (by omega) 3 (v := c3) rfl
  have e4 := cell_rule C (n := (w.heap.size + 1)) (by omega) 4 (v := c4) rfl
  have e5 := cell_rule C (n := (w.heap.size + 1)) (by omega) 5 (v := c5) rfl
  have e6 := cell_rule C (n := (w.heap.size + 1)) (by omega) 6 (v := c6) rfl
  have e7 := cell_rule C (n := (w.heap.size + 1)) (by omega) 7 (v := c7) rfl
  have e8 := cell_rule C (n := (w.heap.size + 1)) (by omega) 8 (v := c8) rfl
  have e9 := cell_rule C (n := (w.heap.size + 1)) (by omega) 9 (v := c9) rfl
  have e10 := cell_rule C (n := (w.heap.size + 1)) (by omega) 10 (v := c10) rfl
  have e11 := cell_rule C (n := (w.heap.size + 1)) (by omega) 11 (v := c11) rfl
  have e12 := cell_rule C (n := (w.heap.size + 1)) (by omega) 12 (v := c12) rfl
  have e13 := cell_rule C (n := (w.heap.size + 1)) (by omega) 13 (v := c13) rfl
  have e14 := cell_rule C (n := (w.heap.size + 1)) (by omega) 14 (v := c14) rfl
  have e15 := cell_rule C (n := (w.heap.size + 1)) (by omega) 15 (v := c15) rfl
  have hZ0 : w.heap.size + 3 ≤ W0.heap.size := by omega
  clear C hz0 hw0 hA0 hz2
  have HR3_0 := hide hA2
  have HR2_0 := hide hA3
  clear hA2 hA3
  have hst := fun (w : World) (a : Addr) (v : Value) (m : Mode) (hv : v.oneCell' = true) => run_store Tryz.prog w a v m hv
  refine Calls.mono (c_Ex D x.target _ F2 _ (HX0.out _ (Hw.out _ hB0)) Hb0.out) ?_
  rintro en W1 ⟨us, G0, rfl, hR, hf, hb⟩
  obtain ⟨u0_0, u0_1, u0_2, u0_3, u0_4, u0_5, u0_6, rfl⟩ := list7 ((ExR.good D).len hR)
  have ho := ExR.one hR
  have o_u0_0 := ho u0_0 (by simp)
  have o_u0_1 := ho u0_1 (by simp)
  have o_u0_2 := ho u0_2 (by simp)
  have o_u0_3 := ho u0_3 (by simp)
  have o_u0_4 := ho u0_4 (by simp)
  have o_u0_5 := ho u0_5 (by simp)
  have o_u0_6 := ho u0_6 (by simp)
  clear ho
  have HR0 := hide hR
  have Hf0 := hide hf
  have hY1 : Below (w.heap.size + 1) U W1 := below_step hB0 hn0 hb
  have HL0 : Hid (Later (w.heap.size + 3) W0 W1) := hide (Later.of_below hb)
  have h3 := blk_below HR3_0.out hb (by omega)
  have h2 := blk_below HR2_0.out hb (by omega)
  have hY := hb.size
  have hS1 : w.heap.size + 3 ≤ W1.heap.size := by omega
  clear hR hf hb hY
  have q2 := cell_at (i := 2) h3 (by simp)
  have g2 := frozen_of_row W1 (w.heap.size + 1 + 1) 2 _ _ h3
  have q3 := cell_at (i := 3) h3 (by simp)
  have g3 := frozen_of_row W1 (w.heap.size + 1 + 1) 3 _ _ h3
  have q4 := cell_at (i := 4) h3 (by simp)
  have g4 := frozen_of_row W1 (w.heap.size + 1 + 1) 4 _ _ h3
  have q5 := cell_at (i := 5) h3 (by simp)
  have g5 := frozen_of_row W1 (w.heap.size + 1 + 1) 5 _ _ h3
  have q6 := cell_at (i := 6) h3 (by simp)
  have g6 := frozen_of_row W1 (w.heap.size + 1 + 1) 6 _ _ h3
  have q7 := cell_at (i := 7) h3 (by simp)
  have g7 := frozen_of_row W1 (w.heap.size + 1 + 1) 7 _ _ h3
  have q8 := cell_at (i := 8) h3 (by simp)
  have g8 := frozen_of_row W1 (w.heap.size + 1 + 1) 8 _ _ h3
  simp only [Array.getD_eq_getD_getElem?, List.getElem?_toArray, List.getElem?_cons_succ, List.getElem?_cons_zero, Option.getD_some] at q2 q3 q4 q5 q6 q7 q8
  have H3 := hide h3
  have H2 := hide h2
  clear h3 h2
  go_wp2_with fail
  show Calls _ _ _ (putCells W1 (w.heap.size + 1 + 1) 2 [u0_0, u0_1, u0_2, u0_3, u0_4, u0_5, u0_6]) _
  have hP := put_spec [u0_0, u0_1, u0_2, u0_3, u0_4, u0_5, u0_6] 2 W1 _ H3.out (by simp)
  have h3 := put_blk [u0_0, u0_1, u0_2, u0_3, u0_4, u0_5, u0_6] 2 W1 _ H3.out
  simp only [setMany, List.setIfInBounds_toArray, List.set_cons_zero, List.set_cons_succ] at h3
  have hBn : Below (w.heap.size + 1) U (putCells W1 (w.heap.size + 1 + 1) 2 [u0_0, u0_1, u0_2, u0_3, u0_4, u0_5, u0_6]) := hY1.trans (hP.below (by omega))
  have hLn : Later (w.heap.size + 3) W1 (putCells W1 (w.heap.size + 1 + 1) 2 [u0_0, u0_1, u0_2, u0_3, u0_4, u0_5, u0_6]) := Later.of_put hP (by omega)
  have h2 := (hP.far (w.heap.size + 1) (by omega)).trans H2.out
  have hZn : w.heap.size + 3 ≤ (putCells W1 (w.heap.size + 1 + 1) 2 [u0_0, u0_1, u0_2, u0_3, u0_4, u0_5, u0_6]).heap.size := by rw [hP.size]; exact hS1
  clear hP q2 g2 q3 g3 q4 g4 q5 g5 q6 g6 q7 g7 q8 g8
  generalize putCells W1 (w.heap.size + 1 + 1) 2 [u0_0, u0_1, u0_2, u0_3, u0_4, u0_5, u0_6] = V1 at h3 h2 hBn hLn hZn ⊢
  have hB1 := hBn
  have HK0 := hide hLn
  have HR3_1 := hide h3
  have HR2_1 := hide h2
  have hT1 := hZn
  clear hBn hLn h3 h2 hZn hY1 hS1
  refine Calls.mono (c_Ex D x.value _ F3 _ (HX1.out _ (Hw.out _ hB1)) Hb1.out) ?_
  rintro en W2 ⟨us, G1, rfl, hR, hf, hb⟩
  obtain ⟨u1_0, u1_1, u1_2, u1_3, u1_4, u1_5, u1_6, rfl⟩ := list7 ((ExR.good D).len hR)
  have ho := ExR.one hR
  have o_u1_0 := ho u1_0 (by simp)
  have o_u1_1 := ho u1_1 (by simp)
  have o_u1_2 := ho u1_2 (by simp)
  have o_u1_3 := ho u1_3 (by simp)
  have o_u1_4 := ho u1_4 (by simp)
  have o_u1_5 := ho u1_5 (by simp)
  have o_u1_6 := ho u1_6 (by simp)
  clear ho
  have HR1 := hide hR
  have Hf1 := hide hf
  have hY2 : Below (w.heap.size + 1) U W2 := below_step hB1 hn0 hb
  have HL1 : Hid (Later (w.heap.size + 3) V1 W2) := hide (Later.of_below hb)
  have h3 := blk_below HR3_1.out hb (by omega)
  have h2 := blk_below HR2_1.out hb (by omega)
  have hY := hb.size
  have hS2 : w.heap.size + 3 ≤ W2.heap.size := by omega
  clear hR hf hb hY
  have q0 := cell_at (i := 0) h3 (by simp)
  have g0 := frozen_of_row W2 (w.heap.size + 1 + 1) 0 _ _ h3
  have q1 := cell_at (i := 1) h3 (by simp)
  have g1 := frozen_of_row W2 (w.heap.size + 1 + 1) 1 _ _ h3
  have q2 := cell_at (i := 2) h3 (by simp)
  have g2 := frozen_of_row W2 (w.heap.size + 1 + 1) 2 _ _ h3
  have q3 := cell_at (i := 3) h3 (by simp)
  have g3 := frozen_of_row W2 (w.heap.size + 1 + 1) 3 _ _ h3
  have q4 := cell_at (i := 4) h3 (by simp)
  have g4 := frozen_of_row W2 (w.heap.size + 1 + 1) 4 _ _ h3
  have q5 := cell_at (i := 5) h3 (by simp)
  have g5 := frozen_of_row W2 (w.heap.size + 1 + 1) 5 _ _ h3
  have q6 := cell_at (i := 6) h3 (by simp)
  have g6 := frozen_of_row W2 (w.heap.size + 1 + 1) 6 _ _ h3
  have q7 := cell_at (i := 7) h3 (by simp)
  have g7 := frozen_of_row W2 (w.heap.size + 1 + 1) 7 _ _ h3
  have q8 := cell_at (i := 8) h3 (by simp)
  have g8 := frozen_of_row W2 (w.heap.size + 1 + 1) 8 _ _ h3
  have q9 := cell_at (i := 9) h3 (by simp)
  have g9 := frozen_of_row W2 (w.heap.size + 1 + 1) 9 _ _ h3
  have q10 := cell_at (i := 10) h3 (by simp)
  have g10 := frozen_of_row W2 (w.heap.size + 1 + 1) 10 _ _ h3
  have q11 := cell_at (i := 11) h3 (by simp)
  have g11 := frozen_of_row W2 (w.heap.size + 1 + 1) 11 _ _ h3
  have q12 := cell_at (i := 12) h3 (by simp)
  have g12 := frozen_of_row W2 (w.heap.size + 1 + 1) 12 _ _ h3
  have q13 := cell_at (i := 13) h3 (by simp)
  have g13 := frozen_of_row W2 (w.heap.size + 1 + 1) 13 _ _ h3
  have q14 := cell_at (i := 14) h3 (by simp)
  have g14 := frozen_of_row W2 (w.heap.size + 1 + 1) 14 _ _ h3
  have q15 := cell_at (i := 15) h3 (by simp)
  have g15 := frozen_of_row W2 (w.heap.size + 1 + 1) 15 _ _ h3
  have r0 := cell_at (i := 0) h2 (by simp)
  have s0 := frozen_of_row W2 (w.heap.size + 1) 0 _ _ h2
  have r1 := cell_at (i := 1) h2 (by simp)
  have s1 := frozen_of_row W2 (w.heap.size + 1) 1 _ _ h2
  have r2 := cell_at (i := 2) h2 (by simp)
  have s2 := frozen_of_row W2 (w.heap.size + 1) 2 _ _ h2
  have r3 := cell_at (i := 3) h2 (by simp)
  have s3 := frozen_of_row W2 (w.heap.size + 1) 3 _ _ h2
  have r4 := cell_at (i := 4) h2 (by simp)
  have s4 := frozen_of_row W2 (w.heap.size + 1) 4 _ _ h2
  have r5 := cell_at (i := 5) h2 (by simp)
  have s5 := frozen_of_row W2 (w.heap.size + 1) 5 _ _ h2
  have r6 := cell_at (i := 6) h2 (by simp)
  have s6 := frozen_of_row W2 (w.heap.size + 1) 6 _ _ h2
  have r7 := cell_at (i := 7) h2 (by simp)
  have s7 := frozen_of_row W2 (w.heap.size + 1) 7 _ _ h2
  have r8 := cell_at (i := 8) h2 (by simp)
  have s8 := frozen_of_row W2 (w.heap.size + 1) 8 _ _ h2
  have r9 := cell_at (i := 9) h2 (by simp)
  have s9 := frozen_of_row W2 (w.heap.size + 1) 9 _ _ h2
  have r10 := cell_at (i := 10) h2 (by simp)
  have s10 := frozen_of_row W2 (w.heap.size + 1) 10 _ _ h2
  have r11 := cell_at (i := 11) h2 (by simp)
  have s11 := frozen_of_row W2 (w.heap.size + 1) 11 _ _ h2
  have r12 := cell_at (i := 12) h2 (by simp)
  have s12 := frozen_of_row W2 (w.heap.size + 1) 12 _ _ h2
  have r13 := cell_at (i := 13) h2 (by simp)
  have s13 := frozen_of_row W2 (w.heap.size + 1) 13 _ _ h2
  have r14 := cell_at (i := 14) h2 (by simp)
  have s14 := frozen_of_row W2 (w.heap.size + 1) 14 _ _ h2
  have r15 := cell_at (i := 15) h2 (by simp)
  have s15 := frozen_of_row W2 (w.heap.size + 1) 15 _ _ h2
  simp only [Array.getD_eq_getD_getElem?, List.getElem?_toArray, List.getElem?_cons_succ, List.getElem?_cons_zero, Option.getD_some] at q0 q1 q2 q3 q4 q5 q6 q7 q8 q9 q10 q11 q12 q13 q14 q15 r0 r1 r2 r3 r4 r5 r6 r7 r8 r9 r10 r11 r12 r13 r14 r15
  have H3 := hide h3
  have H2 := hide h2
  clear h3 h2
  go_wp2_with fail
  change bodyPost _ _ _ _ _ (putCells (putCells W2 (w.heap.size + 1 + 1) 9 [u1_0, u1_1, u1_2, u1_3, u1_4, u1_5, u1_6]) (w.heap.size + 1) 0 [.string x.symbol, .string x.name, u0_0, u0_1, u0_2, u0_3, u0_4, u0_5, u0_6, u1_0, u1_1, u1_2, u1_3, u1_4, u1_5, u1_6])
  have hP := put_spec [u1_0, u1_1, u1_2, u1_3, u1_4, u1_5, u1_6] 9 W2 _ H3.out (by simp)
  have hQ := put_spec [.string x.symbol, .string x.name, u0_0, u0_1, u0_2, u0_3, u0_4, u0_5, u0_6, u1_0, u1_1, u1_2, u1_3, u1_4, u1_5, u1_6] 0 (putCells W2 (w.heap.size + 1 + 1) 9 [u1_0, u1_1, u1_2, u1_3, u1_4, u1_5, u1_6]) _ ((hP.far (w.heap.size + 1) (by omega)).trans H2.out) (by simp)
  have hB : Below (w.heap.size + 1) U (putCells (putCells W2 (w.heap.size + 1 + 1) 9 [u1_0, u1_1, u1_2, u1_3, u1_4, u1_5, u1_6]) (w.heap.size + 1) 0 [.string x.symbol, .string x.name, u0_0, u0_1, u0_2, u0_3, u0_4, u0_5, u0_6, u1_0, u1_1, u1_2, u1_3, u1_4, u1_5, u1_6]) := hY2.trans ((hP.below (by omega)).trans (hQ.below (by omega)))
  have hL : Later (w.heap.size + 3) W2 (putCells (putCells W2 (w.heap.size + 1 + 1) 9 [u1_0, u1_1, u1_2, u1_3, u1_4, u1_5, u1_6]) (w.heap.size + 1) 0 [.string x.symbol, .string x.name, u0_0, u0_1, u0_2, u0_3, u0_4, u0_5, u0_6, u1_0, u1_1, u1_2, u1_3, u1_4, u1_5, u1_6]) := (Later.of_put hP (by omega)).trans (Later.of_put hQ (by omega))
  have hC := hQ.cellsAt
  generalize putCells (putCells W2 (w.heap.size + 1 + 1) 9 [u1_0, u1_1, u1_2, u1_3, u1_4, u1_5, u1_6]) (w.heap.size + 1) 0 [.string x.symbol, .string x.name, u0_0, u0_1, u0_2, u0_3, u0_4, u0_5, u0_6, u1_0, u1_1, u1_2, u1_3, u1_4, u1_5, u1_6] = WF at hB hL hC ⊢
  have x0 : WF.cell? ⟨(w.heap.size + 1), 0, none⟩ = some (.string x.symbol) := hC 0 _ rfl
  have x1 : WF.cell? ⟨(w.heap.size + 1), 1, none⟩ = some (.string x.name) := (show WF.cell? ⟨(w.heap.size + 1), 0 + 1, none⟩ = _ from hC 1 _ rfl)
  have x2 : WF.cell? ⟨(w.heap.size + 1), 2, none⟩ = some (u0_0) := (show WF.cell? ⟨(w.heap.size + 1), 0 + 2, none⟩ = _ from hC 2 _ rfl)
  have x3 : WF.cell? ⟨(w.heap.size + 1), 3, none⟩ = some (u0_1) := (show WF.cell? ⟨(w.heap.size + 1), 0 + 3, none⟩ = _ from hC 3 _ rfl)
  have x4 : WF.cell? ⟨(w.heap.size + 1), 4, none⟩ = some (u0_2) := (show WF.cell? ⟨(w.heap.size + 1), 0 + 4, none⟩ = _ from hC 4 _ rfl)
  have x5 : WF.cell? ⟨(w.heap.size + 1), 5, none⟩ = some (u0_3) := (show WF.cell? ⟨(w.heap.size + 1), 0 + 5, none⟩ = _ from hC 5 _ rfl)
  have x6 : WF.cell? ⟨(w.heap.size + 1), 6, none⟩ = some (u0_4) := (show WF.cell? ⟨(w.heap.size + 1), 0 + 6, none⟩ = _ from hC 6 _ rfl)
  have x7 : WF.cell? ⟨(w.heap.size + 1), 7, none⟩ = some (u0_5) := (show WF.cell? ⟨(w.heap.size + 1), 0 + 7, none⟩ = _ from hC 7 _ rfl)
  have x8 : WF.cell? ⟨(w.heap.size + 1), 8, none⟩ = some (u0_6) := (show WF.cell? ⟨(w.heap.size + 1), 0 + 8, none⟩ = _ from hC 8 _ rfl)
  have x9 : WF.cell? ⟨(w.heap.size + 1), 9, none⟩ = some (u1_0) := (show WF.cell? ⟨(w.heap.size + 1), 0 + 9, none⟩ = _ from hC 9 _ rfl)
  have x10 : WF.cell? ⟨(w.heap.size + 1), 10, none⟩ = some (u1_1) := (show WF.cell? ⟨(w.heap.size + 1), 0 + 10, none⟩ = _ from hC 10 _ rfl)
  have x11 : WF.cell? ⟨(w.heap.size + 1), 11, none⟩ = some (u1_2) := (show WF.cell? ⟨(w.heap.size + 1), 0 + 11, none⟩ = _ from hC 11 _ rfl)
  have x12 : WF.cell? ⟨(w.heap.size + 1), 12, none⟩ = some (u1_3) := (show WF.cell? ⟨(w.heap.size + 1), 0 + 12, none⟩ = _ from hC 12 _ rfl)
  have x13 : WF.cell? ⟨(w.heap.size + 1), 13, none⟩ = some (u1_4) := (show WF.cell? ⟨(w.heap.size + 1), 0 + 13, none⟩ = _ from hC 13 _ rfl)
  have x14 : WF.cell? ⟨(w.heap.size + 1), 14, none⟩ = some (u1_5) := (show WF.cell? ⟨(w.heap.size + 1), 0 + 14, none⟩ = _ from hC 14 _ rfl)
  have x15 : WF.cell? ⟨(w.heap.size + 1), 15, none⟩ = some (u1_6) := (show WF.cell? ⟨(w.heap.size + 1), 0 + 15, none⟩ = _ from hC 15 _ rfl)
  have hFin : ConR D WF x [.string x.symbol, .string x.name, u0_0, u0_1, u0_2, u0_3, u0_4, u0_5, u0_6, u1_0, u1_1, u1_2, u1_3, u1_4, u1_5, u1_6] (G0 ++ G1) := ⟨G0, G1, rfl, Hk.out, rfl, rfl, (ExR.good D).later HR0.out Hf0.out (HK0.out.trans (HL1.out.trans (hL))) (by omega), (ExR.good D).later HR1.out Hf1.out (hL) (by omega), rfl⟩
  have hFr : Fresh w.heap.size WF (G0 ++ G1) := ((Hf0.out.later (HK0.out.trans (HL1.out.trans (hL))) (by omega)).append (Hf1.out.later (hL) (by omega)) (fun b hb => by have := Hf0.out.lt b hb; have := HK0.out.size; omega) (by have := HK0.out.size; have := HL0.out.size; omega)).mono (by omega)
  exact bodyPost_ret (v := .agg #[.string x.symbol, .string x.name, u0_0, u0_1, u0_2, u0_3, u0_4, u0_5, u0_6, u1_0, u1_1, u1_2, u1_3, u1_4, u1_5, u1_6]) (by simp [results, Tryz.results112, go_sem, x0, x1, x2, x3, x4, x5, x6, x7, x8, x9, x10, x11, x12, x13, x14, x15]) rfl ⟨[.string x.symbol, .string x.name, u0_0, u0_1, u0_2, u0_3, u0_4, u0_5, u0_6, u1_0, u1_1, u1_2, u1_3, u1_4, u1_5, u1_6], (G0 ++ G1), rfl, hFin, hFr, Hw.out _ hB⟩
set_option maxRecDepth 100000 in
theorem cs_Con (D : Nat) (l : List Con) (v : Value) (F : List Nat) (w : World) (hs : SlR 16 (ConR D) w l v F) (hl : l.length ≤ 1048576) (hbl : sumBy (bulkCon D) l ≤ 1048576) :
    Calls Tryz.prog 78 #[v] w fun en w' => ∃ v' F', en = .returned v' ∧ SlR 16 (ConR D) w' l v' F' ∧ Fresh w.heap.size w' F' ∧ Below w.heap.size w w' := by
  obtain ⟨A, cap, rfl, hlc, hm⟩ := hs.form
  have HF := hide (hs.lt (ConR.good D))
  have Hs := hide hs
  have Hbl := hide (fun x (hx : x ∈ l) => Int.le_trans (sumBy_mem (f := bulkCon D) (bulkCon_nonneg D) hx) hbl)
  clear hs hbl hlc hm
  have hmk := fun W => run_make_rowN' (P := Tryz.prog) 48 107 (.agg #[.string ByteArray.empty, .string ByteArray.empty, .int .i64 0, .int .i64 0, .int .i64 0, .int .i64 0, .string ByteArray.empty, .string ByteArray.empty, .slice none 0 0, .int .i64 0, .int .i64 0, .int .i64 0, .int .i64 0, .string ByteArray.empty, .string ByteArray.empty, .slice none 0 0]) 16 208 Tryz.underlying48 (by kernel_rfl) .i64 .i64 l.length (by omega) (by omega) W
  have hst := fun (w : World) (a : Addr) (v : Value) (m : Mode) (hv : v.oneCell' = true) => run_store Tryz.prog w a v m hv
  go_enter Tryz.func78, Tryz.ntmps78
  go_wp2_with fail
  go_loopw [4] (fun i wr => ∃ (j : Nat) (F' : List Nat), j ≤ l.length ∧ i = .int .i64 j ∧ Hid (ElR 16 (ConR D) wr w.heap.size 0 (l.take j) F') ∧ Hid (Fresh (w.heap.size + 1) wr F') ∧ Hid (∃ cs, wr.heap[w.heap.size]? = some (.cells cs 107 (0, 0)) ∧ cs.size = l.length * 16) ∧ Hid (Below w.heap.size w wr)) (fun i _ => l.length - (intOf i).toNat)
  case atStart => exact ⟨0, [], by omega, rfl, hide rfl, hide (Fresh.nil _ _), hide ⟨_, heap_alloc_new w _, by simp [madeCells]⟩, hide ((Below.refl _ _).alloc (Nat.le_refl _) _)⟩
  case round =>
    obtain ⟨j, F', hj, rfl, Hel, Hfr, Hbk, Hb⟩ := hrel
    by_cases hlt : j < l.length
    · have hx : l[j]? = some l[j] := List.getElem?_eq_getElem hlt
      generalize l[j] = x at hx
      have Hx := hide hx
      obtain ⟨b, off, cs, Fk, hA, _, hbF, hFk, hcl, hcat, hR⟩ := SlR.get (ConR.good D) (Hs.out.below (ConR.good D) Hb.out HF.out) hx
      subst hA
      obtain ⟨c0, c1, c2, c3, c4, c5, c6, c7, c8, c9, c10, c11, c12, c13, c14, c15, rfl⟩ := list_16 hcl
      have e0 : wr.cell? ⟨b, off + j * 16, none⟩ = some c0 := hcat 0 _ rfl
      have e1 : wr.cell? ⟨b, off + j * 16 + 1, none⟩ = some c1 := hcat 1 _ rfl
      have e2 : wr.cell? ⟨b, off + j * 16 + 2, none⟩ = some c2 := hcat 2 _ rfl
      have e3 : wr.cell? ⟨b, off + j * 16 + 3, none⟩ = some c3 := hcat 3 _ rfl
      have e4 : wr.cell? ⟨b, off + j * 16 + 4, none⟩ = some c4 := hcat 4 _ rfl
      have e5 : wr.cell? ⟨b, off + j * 16 + 5, none⟩ = some c5 := hcat 5 _ rfl
      have e6 : wr.cell? ⟨b, off + j * 16 + 6, none⟩ = some c6 := hcat 6 _ rfl
      have e7 : wr.cell? ⟨b, off + j * 16 + 7, none⟩ = some c7 := hcat 7 _ rfl
      have e8 : wr.cell? ⟨b, off + j * 16 + 8, none⟩ = some c8 := hcat 8 _ rfl
      have e9 : wr.cell? ⟨b, off + j * 16 + 9, none⟩ = some c9 := hcat 9 _ rfl
      have e10 : wr.cell? ⟨b, off + j * 16 + 10, none⟩ = some c10 := hcat 10 _ rfl
      have e11 : wr.cell? ⟨b, off + j * 16 + 11, none⟩ = some c11 := hcat 11 _ rfl
      have e12 : wr.cell? ⟨b, off + j * 16 + 12, none⟩ = some c12 := hcat 12 _ rfl
      have e13 : wr.cell? ⟨b, off + j * 16 + 13, none⟩ = some c13 := hcat 13 _ rfl
      have e14 : wr.cell? ⟨b, off + j * 16 + 14, none⟩ = some c14 := hcat 14 _ rfl
      have e15 : wr.cell? ⟨b, off + j * 16 + 15, none⟩ = some c15 := hcat 15 _ rfl
      have hblt := Nat.lt_of_lt_of_le (HF.out b hbF) Hb.out.size
      have HR := hide hR
      have hbz := Hb.out.size
      clear hx hR hcat hFk hbF hcl
      go_wp2_with fail
      refine Calls.mono (c_Con D x _ Fk _ HR.out (Hbl.out x (List.mem_of_getElem? Hx.out))) ?_
      rintro en w2 ⟨us, F2, rfl, hR2, hf2, hb2⟩
      obtain ⟨u0, u1, u2, u3, u4, u5, u6, u7, u8, u9, u10, u11, u12, u13, u14, u15, rfl⟩ := list_16 ((ConR.good D).len hR2)
      have ho := ConR.one hR2
      have o0 := ho u0 (by simp)
      have o1 := ho u1 (by simp)
      have o2 := ho u2 (by simp)
      have o3 := ho u3 (by simp)
      have o4 := ho u4 (by simp)
      have o5 := ho u5 (by simp)
      have o6 := ho u6 (by simp)
      have o7 := ho u7 (by simp)
      have o8 := ho u8 (by simp)
      have o9 := ho u9 (by simp)
      have o10 := ho u10 (by simp)
      have o11 := ho u11 (by simp)
      have o12 := ho u12 (by simp)
      have o13 := ho u13 (by simp)
      have o14 := ho u14 (by simp)
      have o15 := ho u15 (by simp)
      obtain ⟨cs, hcs, hcz⟩ := Hbk.out
      have hcs2 : w2.heap[w.heap.size]? = some (.cells cs 107 (0, 0)) := blk_below hcs hb2 (blk_lt hcs)
      have q0 := cell_at (i := j * 16) hcs2 (by omega)
      have q1 := cell_at (i := j * 16 + 1) hcs2 (by omega)
      have q2 := cell_at (i := j * 16 + 2) hcs2 (by omega)
      have q3 := cell_at (i := j * 16 + 3) hcs2 (by omega)
      have q4 := cell_at (i := j * 16 + 4) hcs2 (by omega)
      have q5 := cell_at (i := j * 16 + 5) hcs2 (by omega)
      have q6 := cell_at (i := j * 16 + 6) hcs2 (by omega)
      have q7 := cell_at (i := j * 16 + 7) hcs2 (by omega)
      have q8 := cell_at (i := j * 16 + 8) hcs2 (by omega)
      have q9 := cell_at (i := j * 16 + 9) hcs2 (by omega)
      have q10 := cell_at (i := j * 16 + 10) hcs2 (by omega)
      have q11 := cell_at (i := j * 16 + 11) hcs2 (by omega)
      have q12 := cell_at (i := j * 16 + 12) hcs2 (by omega)
      have q13 := cell_at (i := j * 16 + 13) hcs2 (by omega)
      have q14 := cell_at (i := j * 16 + 14) hcs2 (by omega)
      have q15 := cell_at (i := j * 16 + 15) hcs2 (by omega)
      have g0 := frozen_of_row w2 w.heap.size (j * 16) _ _ hcs2
      have g1 := frozen_of_row w2 w.heap.size (j * 16 + 1) _ _ hcs2
      have g2 := frozen_of_row w2 w.heap.size (j * 16 + 2) _ _ hcs2
      have g3 := frozen_of_row w2 w.heap.size (j * 16 + 3) _ _ hcs2
      have g4 := frozen_of_row w2 w.heap.size (j * 16 + 4) _ _ hcs2
      have g5 := frozen_of_row w2 w.heap.size (j * 16 + 5) _ _ hcs2
      have g6 := frozen_of_row w2 w.heap.size (j * 16 + 6) _ _ hcs2
      have g7 := frozen_of_row w2 w.heap.size (j * 16 + 7) _ _ hcs2
      have g8 := frozen_of_row w2 w.heap.size (j * 16 + 8) _ _ hcs2
      have g9 := frozen_of_row w2 w.heap.size (j * 16 + 9) _ _ hcs2
      have g10 := frozen_of_row w2 w.heap.size (j * 16 + 10) _ _ hcs2
      have g11 := frozen_of_row w2 w.heap.size (j * 16 + 11) _ _ hcs2
      have g12 := frozen_of_row w2 w.heap.size (j * 16 + 12) _ _ hcs2
      have g13 := frozen_of_row w2 w.heap.size (j * 16 + 13) _ _ hcs2
      have g14 := frozen_of_row w2 w.heap.size (j * 16 + 14) _ _ hcs2
      have g15 := frozen_of_row w2 w.heap.size (j * 16 + 15) _ _ hcs2
      have HB2 := hide hb2
      have HR2 := hide hR2
      have Hf2 := hide hf2
      have Hcs0 := hide hcs
      clear hb2 hR2 hf2 hcs hcs2 ho
      go_wp2_with fail
      have hst := copy_step (w := w) (ConR.good D) Hx.out Hel.out Hfr.out Hcs0.out hcz Hb.out HB2.out HR2.out Hf2.out rfl
      exact ⟨⟨j + 1, F' ++ F2, by omega, by go_num, hide hst.1, hide hst.2.1, hide hst.2.2.1, hide hst.2.2.2⟩, by simp [intOf]; omega⟩
    · have hjl : j = l.length := by omega
      subst hjl
      have Hel' : Hid (ElR 16 (ConR D) wr w.heap.size 0 l F') := by have := Hel.out; rw [List.take_length] at this; exact hide this
      go_wp2_with fail
      go_ret
      obtain ⟨cs, hcs, _⟩ := Hbk.out
      obtain ⟨G, hG, hGf⟩ := copy_done (w := w) (by unfold maxLen; omega) Hel'.out Hfr.out hcs
      exact ⟨_, G, rfl, hG, hGf, Hb.out⟩
structure Rul where
  name : ByteArray
  left : ByteArray
  right : List ByteArray
  lit : Bool
  eqs : List Eqn
  cons : List Con
structure Rul.ok (x : Rul) : Prop where
  name : x.name.size ≤ maxLen
  left : x.left.size ≤ maxLen
def RulR (D : Nat) : CR Rul := fun w x cs F => ∃ (v2 : Value) (F2 : List Nat) (v4 : Value) (F4 : List Nat) (v5 : Value) (F5 : List Nat), cs.length = 6 ∧ x.ok ∧ cs[0]? = some (.string x.name) ∧ cs[1]? = some (.string x.left) ∧ (cs[2]? = some v2 ∧ SlR 1 (StrR D) w x.right v2 F2) ∧ cs[3]? = some (.bool x.lit) ∧ (cs[4]? = some v4 ∧ SlR 9 (EqnR D) w x.eqs v4 F4) ∧ (cs[5]? = some v5 ∧ SlR 16 (ConR D) w x.cons v5 F5) ∧ F = F2 ++ (F4 ++ F5)
theorem RulR.good (D : Nat) : Good 6 (RulR D) where
  len := fun {w x cs F} h => by
    obtain ⟨v2, F2, v4, F4, v5, F5, hl, hk, h0, h1, ⟨h2, g2⟩, h3, ⟨h4, g4⟩, ⟨h5, g5⟩, rfl⟩ := h
    exact hl
  frame := fun {w w' x cs F} h he hz => by
    obtain ⟨v2, F2, v4, F4, v5, F5, hl, hk, h0, h1, ⟨h2, g2⟩, h3, ⟨h4, g4⟩, ⟨h5, g5⟩, rfl⟩ := h
    exact ⟨v2, F2, v4, F4, v5, F5, hl, hk, h0, h1, ⟨h2, g2.frame (StrR.good D) (fun k hk' => he k (by simp only [List.mem_append]; simp [hk'])) hz⟩, h3, ⟨h4, g4.frame (EqnR.good D) (fun k hk' => he k (by simp only [List.mem_append]; simp [hk'])) hz⟩, ⟨h5, g5.frame (ConR.good D) (fun k hk' => he k (by simp only [List.mem_append]; simp [hk'])) hz⟩, rfl⟩
  lt := fun {w x cs F} h b hb => by
    obtain ⟨v2, F2, v4, F4, v5, F5, hl, hk, h0, h1, ⟨h2, g2⟩, h3, ⟨h4, g4⟩, ⟨h5, g5⟩, rfl⟩ := h
    rcases List.mem_append.1 hb with hb | hb
    · exact g2.lt (StrR.good D) b hb
    rcases List.mem_append.1 hb with hb | hb
    · exact g4.lt (EqnR.good D) b hb
    · exact g5.lt (ConR.good D) b hb
theorem RulR.up {D : Nat} {w : World} {x : Rul} {cs : List Value} {F : List Nat} (h : RulR D w x cs F) (D' : Nat) (hd : D ≤ D') : RulR D' w x cs F := by
  obtain ⟨v2, F2, v4, F4, v5, F5, hl, hk, h0, h1, ⟨h2, g2⟩, h3, ⟨h4, g4⟩, ⟨h5, g5⟩, rfl⟩ := h
  exact ⟨v2, F2, v4, F4, v5, F5, hl, hk, h0, h1, ⟨h2, g2.mono fun _ _ _ q => StrR.up q _ hd⟩, h3, ⟨h4, g4.mono fun _ _ _ q => EqnR.up q _ hd⟩, ⟨h5, g5.mono fun _ _ _ q => ConR.up q _ hd⟩, rfl⟩
theorem RulR.one {D : Nat} {w : World} {x : Rul} {cs : List Value} {F : List Nat} (h : RulR D w x cs F) : ∀ v ∈ cs, v.oneCell' = true := by
  obtain ⟨c0, c1, c2, c3, c4, c5, rfl⟩ := list_6 ((RulR.good D).len h)
  obtain ⟨v2, F2, v4, F4, v5, F5, hl, hk, h0, h1, ⟨h2, g2⟩, h3, ⟨h4, g4⟩, ⟨h5, g5⟩, rfl⟩ := h
  intro v hv
  simp only [List.mem_cons, List.not_mem_nil, or_false] at hv
  rcases hv with rfl | rfl | rfl | rfl | rfl | rfl
  · obtain rfl := Option.some.inj h0
    rfl
  · obtain rfl := Option.some.inj h1
    rfl
  · obtain ⟨A, cap, hv, _, _⟩ := g2.form
    obtain rfl := Option.some.inj h2
    rw [hv]
    rfl
  · obtain rfl := Option.some.inj h3
    rfl
  · obtain ⟨A, cap, hv, _, _⟩ := g4.form
    obtain rfl := Option.some.inj h4
    rw [hv]
    rfl
  · obtain ⟨A, cap, hv, _, _⟩ := g5.form
    obtain rfl := Option.some.inj h5
    rw [hv]
    rfl
def bulkRul (D : Nat) (x : Rul) : Int := (x.name.size : Int) + (x.left.size : Int) + (x.right.length + bulkS x.right) + (x.eqs.length + sumBy (bulkEqn D) x.eqs) + (x.cons.length + sumBy (bulkCon D) x.cons)
theorem bulkRul_nonneg (D : Nat) (x : Rul) : 0 ≤ bulkRul D x := by unfold bulkRul; have := bulkS_nonneg x.right; have := sumBy_nonneg (bulkEqn_nonneg D) x.eqs; have := sumBy_nonneg (bulkCon_nonneg D) x.cons; omega
theorem cells_Rul {H : Type} {enc : TypeId × Value → H} {w : World} {base : Nat} {sp : Nat → Bool} {held : Bool} (fuel : Nat) {cs : List Value} {x : DataW H × List MemPlace}
    (h : DataW.trod enc Tryz.prog w base sp held fuel 66 cs = some x) : ∃ y F, RulR fuel w y cs F := by
  have ht := Tryz.underlying66
  have hl := (trod_len ht h).trans (show Tryz.prog.cellsOf 66 = 6 by kernel_rfl)
  obtain ⟨c0, c1, c2, c3, c4, c5, rfl⟩ := list_6 hl
  obtain ⟨z0, e0, w0⟩ := field_string 0 _ ht h rfl Tryz.underlying9 (by kernel_rfl)
  obtain ⟨z1, e1, w1⟩ := field_string 1 _ ht h rfl Tryz.underlying9 (by kernel_rfl)
  obtain ⟨n2, y2, hn2, k2⟩ := trod_field 2 _ ht h rfl
  have k2 : DataW.trod enc Tryz.prog w base sp held n2 46 (([c0, c1, c2, c3, c4, c5].drop 2).take (Tryz.prog.cellsOf 46)) = some y2 := k2
  rw [show Tryz.prog.cellsOf 46 = 1 by kernel_rfl] at k2
  obtain ⟨z2, v2, G2, b2, r2⟩ := open_SlR (n := 1) Tryz.underlying46 (by kernel_rfl) (by omega) (StrR n2) k2 (fun m cs y hm hy => by
      obtain ⟨e, F, he⟩ := cells_Str m hy
      exact ⟨e, F, he.up n2 (by omega)⟩)
  obtain ⟨z3, e3⟩ := field_bool 3 _ ht h rfl Tryz.underlying4 (by kernel_rfl)
  obtain ⟨n4, y4, hn4, k4⟩ := trod_field 4 _ ht h rfl
  have k4 : DataW.trod enc Tryz.prog w base sp held n4 63 (([c0, c1, c2, c3, c4, c5].drop 4).take (Tryz.prog.cellsOf 63)) = some y4 := k4
  rw [show Tryz.prog.cellsOf 63 = 1 by kernel_rfl] at k4
  obtain ⟨z4, v4, G4, b4, r4⟩ := open_SlR (n := 9) Tryz.underlying63 (by kernel_rfl) (by omega) (EqnR n4) k4 (fun m cs y hm hy => by
      obtain ⟨e, F, he⟩ := cells_Eqn m hy
      exact ⟨e, F, he.up n4 (by omega)⟩)
  obtain ⟨n5, y5, hn5, k5⟩ := trod_field 5 _ ht h rfl
  have k5 : DataW.trod enc Tryz.prog w base sp held n5 64 (([c0, c1, c2, c3, c4, c5].drop 5).take (Tryz.prog.cellsOf 64)) = some y5 := k5
  rw [show Tryz.prog.cellsOf 64 = 1 by kernel_rfl] at k5
  obtain ⟨z5, v5, G5, b5, r5⟩ := open_SlR (n := 16) Tryz.underlying64 (by kernel_rfl) (by omega) (ConR n5) k5 (fun m cs y hm hy => by
      obtain ⟨e, F, he⟩ := cells_Con m hy
      exact ⟨e, F, he.up n5 (by omega)⟩)
  simp at e0 e1 b2 e3 b4 b5
  subst e0 e1 b2 e3 b4 b5
  exact ⟨⟨z0, z1, z2, z3, z4, z5⟩, _, _, G2, _, G4, _, G5, rfl, ⟨w0, w1⟩, rfl, rfl, ⟨rfl, r2.mono fun x cs F (hx : StrR n2 w x cs F) => hx.up fuel (by omega)⟩, rfl, ⟨rfl, r4.mono fun x cs F (hx : EqnR n4 w x cs F) => hx.up fuel (by omega)⟩, ⟨rfl, r5.mono fun x cs F (hx : ConR n5 w x cs F) => hx.up fuel (by omega)⟩, rfl⟩
set_option maxRecDepth 100000 in
theorem open_Rul {H : Type} {enc : TypeId × Value → H} {w : World} {C base : Nat} {sp : Nat → Bool} {held : Bool} {v : Value} {d : DataW H} {p : List MemPlace} (hv : Value.okWide Tryz.prog w .any C 66 v)
    (h : DataW.Trod enc Tryz.prog w base sp held 66 v d p) : ∃ (D : Nat) (y : Rul) (cs : List Value) (F : List Nat), v = .agg cs.toArray ∧ RulR D w y cs F := by
  obtain ⟨cs, fuel, x, rfl, hf⟩ := okWide_cells Tryz.underlying66 hv h
  obtain ⟨y, F, he⟩ := cells_Rul fuel hf
  exact ⟨fuel, y, _, F, rfl, he⟩
set_option maxRecDepth 100000 in
theorem z_Rul (D : Nat) (x : Rul) (cs : List Value) (F : List Nat) (w : World) (L : Int) (h : RulR D w x cs F) (h0 : 0 ≤ L) (h1 : L ≤ 1048576) :
    Calls Tryz.prog 27 #[.agg cs.toArray, .int .i64 L] w fun en w' => Sized (bulkRul D x) L en ∧ Below w.heap.size w w' := by
  obtain ⟨c0, c1, c2, c3, c4, c5, rfl⟩ := list_6 ((RulR.good D).len h)
  obtain ⟨v2, F2, v4, F4, v5, F5, _, hk, h0, h1, ⟨h2, g2⟩, h3, ⟨h4, g4⟩, ⟨h5, g5⟩, rfl⟩ := h
  obtain rfl := Option.some.inj h0
  obtain rfl := Option.some.inj h1
  obtain rfl := Option.some.inj h2
  obtain rfl := Option.some.inj h3
  obtain rfl := Option.some.inj h4
  obtain rfl := Option.some.inj h5
  have hs_name := hk.name
  have hs_left := hk.left
  unfold maxLen at hs_name hs_left
  clear hk
  have HF2 := hide (g2.lt (StrR.good D))
  have HX2 : Hid (∀ W : World, Below w.heap.size w W → SlR 1 (StrR D) W x.right c2 F2) := hide fun W hW => g2.below (StrR.good D) hW HF2.out
  clear g2
  have HF4 := hide (g4.lt (EqnR.good D))
  have HX4 : Hid (∀ W : World, Below w.heap.size w W → SlR 9 (EqnR D) W x.eqs c4 F4) := hide fun W hW => g4.below (EqnR.good D) hW HF4.out
  clear g4
  have HF5 := hide (g5.lt (ConR.good D))
  have HX5 : Hid (∀ W : World, Below w.heap.size w W → SlR 16 (ConR D) W x.cons c5 F5) := hide fun W hW => g5.below (ConR.good D) hW HF5.out
  clear g5
  obtain ⟨C, hz0, hw0⟩ := boxes1 w [.string x.name, .string x.left, c2, .bool x.lit, c4, c5] 66
  show Calls _ _ #[.agg #[.string x.name, .string x.left, c2, .bool x.lit, c4, c5], .int .i64 L] w _
  by_cases q_name : L < x.name.size
  · go_enter Tryz.func27, Tryz.ntmps27
    go_wp2_with fail
    go_ret
    exact ⟨⟨-1, rfl, .inl rfl⟩, hw0⟩
  by_cases q_left : L - x.name.size < x.left.size
  · go_enter Tryz.func27, Tryz.ntmps27
    go_wp2_with fail
    go_ret
    exact ⟨⟨-1, rfl, .inl rfl⟩, hw0⟩
  go_enter Tryz.func27, Tryz.ntmps27
  go_wp2_with fail
  generalize w.alloc (Obj.cells #[.string x.name, .string x.left, c2, .bool x.lit, c4, c5] 66) = W0 at C hz0 hw0 ⊢
  have hn0 : (w.heap.size + 1) ≤ W0.heap.size := by omega
  have Hw : Hid (∀ W : World, Below (w.heap.size + 1) W0 W → Below w.heap.size w W) := hide fun W h => hw0.trans (h.mono (by omega))
  have hB0 : Below (w.heap.size + 1) W0 W0 := Below.refl _ _
  have e2 := cell_rule C (n := (w.heap.size + 1)) (by omega) 2 (v := c2) rfl
  have e4 := cell_rule C (n := (w.heap.size + 1)) (by omega) 4 (v := c4) rfl
  have e5 := cell_rule C (n := (w.heap.size + 1)) (by omega) 5 (v := c5) rfl
  clear C hz0 hw0
  refine Calls.mono (zs_Str D x.right _ F2 _ (L - x.name.size - x.left.size) (HX2.out _ (Hw.out _ hB0)) (by omega) (by omega)) ?_
  rintro en W1 ⟨⟨r0, rfl, hr⟩, hb⟩
  have hB1 : Below (w.heap.size + 1) W0 W1 := below_step hB0 hn0 hb
  clear hb
  rcases hr with rfl | ⟨hr0, hq0⟩
  · go_wp2_with fail
    go_ret
    exact ⟨⟨-1, rfl, .inl rfl⟩, Hw.out _ hB1⟩
  have hn2 := bulkS_nonneg x.right
  have hl0 : r0 ≤ 1048576 := by omega
  have Hq0 := hide hq0
  clear hq0 hn2
  go_wp2_with fail
  refine Calls.mono (zs_Eqn D x.eqs _ F4 _ (r0) (HX4.out _ (Hw.out _ hB1)) (by omega) (by omega)) ?_
  rintro en W2 ⟨⟨r1, rfl, hr⟩, hb⟩
  have hB2 : Below (w.heap.size + 1) W0 W2 := below_step hB1 hn0 hb
  clear hb
  rcases hr with rfl | ⟨hr1, hq1⟩
  · go_wp2_with fail
    go_ret
    exact ⟨⟨-1, rfl, .inl rfl⟩, Hw.out _ hB2⟩
  have hn4 := sumBy_nonneg (bulkEqn_nonneg D) x.eqs
  have hl1 : r1 ≤ 1048576 := by omega
  have Hq1 := hide hq1
  clear hq1 hn4
  go_wp2_with fail
  refine Calls.mono (zs_Con D x.cons _ F5 _ (r1) (HX5.out _ (Hw.out _ hB2)) (by omega) (by omega)) ?_
  rintro en W3 ⟨⟨r2, rfl, hr⟩, hb⟩
  have hB3 : Below (w.heap.size + 1) W0 W3 := below_step hB2 hn0 hb
  clear hb
  rcases hr with rfl | ⟨hr2, hq2⟩
  · go_wp2_with fail
    go_ret
    exact ⟨⟨-1, rfl, .inl rfl⟩, Hw.out _ hB3⟩
  have hn5 := sumBy_nonneg (bulkCon_nonneg D) x.cons
  have hl2 : r2 ≤ 1048576 := by omega
  have Hq2 := hide hq2
  clear hq2 hn5
  go_wp2_with fail
  go_ret
  exact ⟨⟨_, rfl, .inr ⟨by omega, by have := Hq0.out; have := Hq1.out; have := Hq2.out; unfold bulkRul; omega⟩⟩, Hw.out _ hB3⟩
set_option maxRecDepth 100000 in
theorem e_Rul (D : Nat) (x : Rul) (cs cs' : List Value) (F F' : List Nat) (w : World) (h : RulR D w x cs F) (h' : RulR D w x cs' F') :
    Calls Tryz.prog 60 #[.agg cs.toArray, .agg cs'.toArray] w fun en w' => en = .returned (.bool true) ∧ Below w.heap.size w w' := by
  obtain ⟨a0, a1, a2, a3, a4, a5, rfl⟩ := list_6 ((RulR.good D).len h)
  obtain ⟨v2, F2, v4, F4, v5, F5, _, hk, h0, h1, ⟨h2, g2⟩, h3, ⟨h4, g4⟩, ⟨h5, g5⟩, rfl⟩ := h
  obtain rfl := Option.some.inj h0
  obtain rfl := Option.some.inj h1
  obtain rfl := Option.some.inj h2
  obtain rfl := Option.some.inj h3
  obtain rfl := Option.some.inj h4
  obtain rfl := Option.some.inj h5
  obtain ⟨b0, b1, b2, b3, b4, b5, rfl⟩ := list_6 ((RulR.good D).len h')
  obtain ⟨pv2, pF2, pv4, pF4, pv5, pF5, _, phk, ph0, ph1, ⟨ph2, pg2⟩, ph3, ⟨ph4, pg4⟩, ⟨ph5, pg5⟩, rfl⟩ := h'
  obtain rfl := Option.some.inj ph0
  obtain rfl := Option.some.inj ph1
  obtain rfl := Option.some.inj ph2
  obtain rfl := Option.some.inj ph3
  obtain rfl := Option.some.inj ph4
  obtain rfl := Option.some.inj ph5
  have HF2 := hide (g2.lt (StrR.good D))
  have HXF2 : Hid (∀ W : World, Below w.heap.size w W → SlR 1 (StrR D) W x.right a2 F2) := hide fun W hW => g2.below (StrR.good D) hW HF2.out
  clear g2
  have HF4 := hide (g4.lt (EqnR.good D))
  have HXF4 : Hid (∀ W : World, Below w.heap.size w W → SlR 9 (EqnR D) W x.eqs a4 F4) := hide fun W hW => g4.below (EqnR.good D) hW HF4.out
  clear g4
  have HF5 := hide (g5.lt (ConR.good D))
  have HXF5 : Hid (∀ W : World, Below w.heap.size w W → SlR 16 (ConR D) W x.cons a5 F5) := hide fun W hW => g5.below (ConR.good D) hW HF5.out
  clear g5
  have HpF2 := hide (pg2.lt (StrR.good D))
  have HXpF2 : Hid (∀ W : World, Below w.heap.size w W → SlR 1 (StrR D) W x.right b2 pF2) := hide fun W hW => pg2.below (StrR.good D) hW HpF2.out
  clear pg2
  have HpF4 := hide (pg4.lt (EqnR.good D))
  have HXpF4 : Hid (∀ W : World, Below w.heap.size w W → SlR 9 (EqnR D) W x.eqs b4 pF4) := hide fun W hW => pg4.below (EqnR.good D) hW HpF4.out
  clear pg4
  have HpF5 := hide (pg5.lt (ConR.good D))
  have HXpF5 : Hid (∀ W : World, Below w.heap.size w W → SlR 16 (ConR D) W x.cons b5 pF5) := hide fun W hW => pg5.below (ConR.good D) hW HpF5.out
  clear pg5
  obtain ⟨C1, C2, hz0, hw0⟩ := boxes2 w [.string x.name, .string x.left, a2, .bool x.lit, a4, a5] [.string x.name, .string x.left, b2, .bool x.lit, b4, b5] 50 50
  show Calls _ _ #[.agg #[.string x.name, .string x.left, a2, .bool x.lit, a4, a5], .agg #[.string x.name, .string x.left, b2, .bool x.lit, b4, b5]] w _
  go_enter Tryz.func60, Tryz.ntmps60
  go_wp2_with fail
  generalize (w.alloc (Obj.cells #[.string x.name, .string x.left, a2, .bool x.lit, a4, a5] 50)).alloc (Obj.cells #[.string x.name, .string x.left, b2, .bool x.lit, b4, b5] 50) = W0 at C1 C2 hz0 hw0 ⊢
  have hn0 : (w.heap.size + 2) ≤ W0.heap.size := by omega
  have Hw : Hid (∀ W : World, Below (w.heap.size + 2) W0 W → Below w.heap.size w W) := hide fun W h => hw0.trans (h.mono (by omega))
  have hB0 : Below (w.heap.size + 2) W0 W0 := Below.refl _ _
  have e0 := cell_rule C1 (n := (w.heap.size + 2)) (by omega) 0 (v := (.string x.name)) rfl
  have g0 := cell_rule C2 (n := (w.heap.size + 2)) (by omega) 0 (v := (.string x.name)) rfl
  have e1 := cell_rule C1 (n := (w.heap.size + 2)) (by omega) 1 (v := (.string x.left)) rfl
  have g1 := cell_rule C2 (n := (w.heap.size + 2)) (by omega) 1 (v := (.string x.left)) rfl
  have e2 := cell_rule C1 (n := (w.heap.size + 2)) (by omega) 2 (v := a2) rfl
  have g2 := cell_rule C2 (n := (w.heap.size + 2)) (by omega) 2 (v := b2) rfl
  have e3 := cell_rule C1 (n := (w.heap.size + 2)) (by omega) 3 (v := (.bool x.lit)) rfl
  have g3 := cell_rule C2 (n := (w.heap.size + 2)) (by omega) 3 (v := (.bool x.lit)) rfl
  have e4 := cell_rule C1 (n := (w.heap.size + 2)) (by omega) 4 (v := a4) rfl
  have g4 := cell_rule C2 (n := (w.heap.size + 2)) (by omega) 4 (v := b4) rfl
  have e5 := cell_rule C1 (n := (w.heap.size + 2)) (by omega) 5 (v := a5) rfl
  have g5 := cell_rule C2 (n := (w.heap.size + 2)) (by omega) 5 (v := b5) rfl
  clear C1 C2 hz0 hw0
  refine Calls.mono (es_Str D x.right _ _ F2 pF2 _ (HXF2.out _ (Hw.out _ hB0)) (HXpF2.out _ (Hw.out _ hB0))) ?_
  rintro en W1 ⟨rfl, hb⟩
  have hB1 : Below (w.heap.size + 2) W0 W1 := below_step hB0 hn0 hb
  clear hb
  go_wp2_with fail
  refine Calls.mono (es_Eqn D x.eqs _ _ F4 pF4 _ (HXF4.out _ (Hw.out _ hB1)) (HXpF4.out _ (Hw.out _ hB1))) ?_
  rintro en W2 ⟨rfl, hb⟩
  have hB2 : Below (w.heap.size + 2) W0 W2 := below_step hB1 hn0 hb
  clear hb
  go_wp2_with fail
  refine Calls.mono (es_Con D x.cons _ _ F5 pF5 _ (HXF5.out _ (Hw.out _ hB2)) (HXpF5.out _ (Hw.out _ hB2))) ?_
  rintro en W3 ⟨rfl, hb⟩
  have hB3 : Below (w.heap.size + 2) W0 W3 := below_step hB2 hn0 hb
  clear hb
  go_wp2_with fail
  go_ret
  exact ⟨rfl, Hw.out _ hB3⟩
set_option maxRecDepth 100000 in
theorem c_Rul (D : Nat) (x : Rul) (cs : List Value) (F : List Nat) (w : World) (h : RulR D w x cs F) (hbk : bulkRul D x ≤ 1048576) :
    Calls Tryz.prog 36 #[.agg cs.toArray] w fun en w' => ∃ us F', en = .returned (.agg (List.toArray us)) ∧ RulR D w' x us F' ∧ Fresh w.heap.size w' F' ∧ Below w.heap.size w w' := by
  obtain ⟨c0, c1, c2, c3, c4, c5, rfl⟩ := list_6 ((RulR.good D).len h)
  obtain ⟨v2, F2, v4, F4, v5, F5, _, hk, h0, h1, ⟨h2, g2⟩, h3, ⟨h4, g4⟩, ⟨h5, g5⟩, rfl⟩ := h
  obtain rfl := Option.some.inj h0
  obtain rfl := Option.some.inj h1
  obtain rfl := Option.some.inj h2
  obtain rfl := Option.some.inj h3
  obtain rfl := Option.some.inj h4
  obtain rfl := Option.some.inj h5
  have Hk := hide hk
  clear hk
  have Hbk := hide hbk
  clear hbk
  have HF0 := hide (g2.lt (StrR.good D))
  have HX0 : Hid (∀ W : World, Below w.heap.size w W → SlR 1 (StrR D) W x.right c2 F2) := hide fun W hW => g2.below (StrR.good D) hW HF0.out
  clear g2
  have HF1 := hide (g4.lt (EqnR.good D))
  have HX1 : Hid (∀ W : World, Below w.heap.size w W → SlR 9 (EqnR D) W x.eqs c4 F4) := hide fun W hW => g4.below (EqnR.good D) hW HF1.out
  clear g4
  have HF2 := hide (g5.lt (ConR.good D))
  have HX2 : Hid (∀ W : World, Below w.heap.size w W → SlR 16 (ConR D) W x.cons c5 F5) := hide fun W hW => g5.below (ConR.good D) hW HF2.out
  clear g5
  have Hb0 : Hid (x.right.length ≤ 1048576 ∧ bulkS x.right ≤ 1048576) := hide (by
    have hb := Hbk.out
    unfold bulkRul at hb
    have := bulkS_nonneg x.right; have := sumBy_nonneg (bulkEqn_nonneg D) x.eqs; have := sumBy_nonneg (bulkCon_nonneg D) x.cons
    omega)
  have Hb1 : Hid (x.eqs.length ≤ 1048576 ∧ sumBy (bulkEqn D) x.eqs ≤ 1048576) := hide (by
    have hb := Hbk.out
    unfold bulkRul at hb
    have := bulkS_nonneg x.right; have := sumBy_nonneg (bulkEqn_nonneg D) x.eqs; have := sumBy_nonneg (bulkCon_nonneg D) x.cons
    omega)
  have Hb2 : Hid (x.cons.length ≤ 1048576 ∧ sumBy (bulkCon D) x.cons ≤ 1048576) := hide (by
    have hb := Hbk.out
    unfold bulkRul at hb
    have := bulkS_nonneg x.right; have := sumBy_nonneg (bulkEqn_nonneg D) x.eqs; have := sumBy_nonneg (bulkCon_nonneg D) x.cons
    omega)
  obtain ⟨C, hz0, hw0⟩ := boxes1 w [.string x.name, .string x.left, c2, .bool x.lit, c4, c5] 66
  show Calls _ _ #[.agg #[.string x.name, .string x.left, c2, .bool x.lit, c4, c5]] w _
  go_enter Tryz.func36, Tryz.ntmps36
  go_wp2_with fail
  have hA1 := heap_alloc_new (w.alloc (Obj.cells #[.string x.name, .string x.left, c2, .bool x.lit, c4, c5] 66)) (Obj.cells #[.string ⟨#[]⟩, .string ⟨#[]⟩, .slice none 0 0, .bool false, .slice none 0 0, .slice none 0 0] 50)
  have hA2 := heap_alloc_new ((w.alloc (Obj.cells #[.string x.name, .string x.left, c2, .bool x.lit, c4, c5] 66)).alloc (Obj.cells #[.string ⟨#[]⟩, .string ⟨#[]⟩, .slice none 0 0, .bool false, .slice none 0 0, .slice none 0 0] 50)) (Obj.cells #[.string x.name, .string x.left, .slice none 0 0, .bool false, .slice none 0 0, .slice none 0 0] 50)
  have hA0 : Below (w.heap.size + 1) (w.alloc (Obj.cells #[.string x.name, .string x.left, c2, .bool x.lit, c4, c5] 66)) (((w.alloc (Obj.cells #[.string x.name, .string x.left, c2, .bool x.lit, c4, c5] 66)).alloc (Obj.cells #[.string ⟨#[]⟩, .string ⟨#[]⟩, .slice none 0 0, .bool false, .slice none 0 0, .slice none 0 0] 50)).alloc (Obj.cells #[.string x.name, .string x.left, .slice none 0 0, .bool false, .slice none 0 0, .slice none 0 0] 50)) := ((Below.refl _ _).alloc (Nat.le_of_eq hz0.symm) _).alloc (by simp) _
  rw [hz0] at hA1
  have hA3 := (Below.heap_alloc ((w.alloc (Obj.cells #[.string x.name, .string x.left, c2, .bool x.lit, c4, c5] 66)).alloc (Obj.cells #[.string ⟨#[]⟩, .string ⟨#[]⟩, .slice none 0 0, .bool false, .slice none 0 0, .slice none 0 0] 50)) (Obj.cells #[.string x.name, .string x.left, .slice none 0 0, .bool false, .slice none 0 0, .slice none 0 0] 50) (w.heap.size + 1) (by simp)).trans hA1
  have hz2 : (((w.alloc (Obj.cells #[.string x.name, .string x.left, c2, .bool x.lit, c4, c5] 66)).alloc (Obj.cells #[.string ⟨#[]⟩, .string ⟨#[]⟩, .slice none 0 0, .bool false, .slice none 0 0, .slice none 0 0] 50)).alloc (Obj.cells #[.string x.name, .string x.left, .slice none 0 0, .bool false, .slice none 0 0, .slice none 0 0] 50)).heap.size = w.heap.size + 3 := by simp
  rw [World.size_alloc, hz0] at hA2
  clear hA1
  have hB0 := hA0
  generalize ((w.alloc (Obj.cells #[.string x.name, .string x.left, c2, .bool x.lit, c4, c5] 66)).alloc (Obj.cells #[.string ⟨#[]⟩, .string ⟨#[]⟩, .slice none 0 0, .bool false, .slice none 0 0, .slice none 0 0] 50)).alloc (Obj.cells #[.string x.name, .string x.left, .slice none 0 0, .bool false, .slice none 0 0, .slice none 0 0] 50) = W0 at hA0 hA2 hA3 hz2 hB0 ⊢
  generalize w.alloc (Obj.cells #[.string x.name, .string x.left, c2, .bool x.lit, c4, c5] 66) = U at C hz0 hw0 hA0 hB0
  have hn0 : (w.heap.size + 1) ≤ U.heap.size := by omega
  have Hw : Hid (∀ W : World, Below (w.heap.size + 1) U W → Below w.heap.size w W) := hide fun W h => hw0.trans (h.mono (by omega))
  have e0 := cell_rule C (n := (w.heap.size + 1)) (by omega) 0 (v := (.string x.name)) rfl
  have e1 := cell_rule C (n := (w.heap.size + 1)) (by omega) 1 (v := (.string x.left)) rfl
  have e2 := cell_rule C (n := (w.heap.size + 1)) (by omega) 2 (v := c2) rfl
  have e3 := cell_rule C (n := (w.heap.size + 1)) (by omega) 3 (v := (.bool x.lit)) rfl
  have e4 := cell_rule C (n := (w.heap.size + 1)) (by omega) 4 (v := c4) rfl
  have e5 := cell_rule C (n := (w.heap.size + 1)) (by omega) 5 (v := c5) rfl
  have hZ0 : w.heap.size + 3 ≤ W0.heap.size := by omega
  clear C hz0 hw0 hA0 hz2
  have HR3_0 := hide hA2
  have HR2_0 := hide hA3
  clear hA2 hA3
  have hst := fun (w : World) (a : Addr) (v : Value) (m : Mode) (hv : v.oneCell' = true) => run_store Tryz.prog w a v m hv
  refine Calls.mono (cs_Str D x.right _ F2 _ (HX0.out _ (Hw.out _ hB0)) Hb0.out.1 Hb0.out.2) ?_
  rintro en W1 ⟨u0_0, G0, rfl, hR, hf, hb⟩
  obtain ⟨A_0, k_0, rfl, _, _⟩ := hR.form
  have HR0 := hide hR
  have Hf0 := hide hf
  have hY1 : Below (w.heap.size + 1) U W1 := below_step hB0 hn0 hb
  have HL0 : Hid (Later (w.heap.size + 3) W0 W1) := hide (Later.of_below hb)
  have h3 := blk_below HR3_0.out hb (by omega)
  have h2 := blk_below HR2_0.out hb (by omega)
  have hY := hb.size
  have hS1 : w.heap.size + 3 ≤ W1.heap.size := by omega
  clear hR hf hb hY
  have q2 := cell_at (i := 2) h3 (by simp)
  have g2 := frozen_of_row W1 (w.heap.size + 1 + 1) 2 _ _ h3
  have q3 := cell_at (i := 3) h3 (by simp)
  have g3 := frozen_of_row W1 (w.heap.size + 1 + 1) 3 _ _ h3
  simp only [Array.getD_eq_getD_getElem?, List.getElem?_toArray, List.getElem?_cons_succ, List.getElem?_cons_zero, Option.getD_some] at q2 q3
  have H3 := hide h3
  have H2 := hide h2
  clear h3 h2
  go_wp2_with fail
  show Calls _ _ _ (putCells W1 (w.heap.size + 1 + 1) 2 [.slice A_0 x.right.length k_0, .bool x.lit]) _
  have hP := put_spec [.slice A_0 x.right.length k_0, .bool x.lit] 2 W1 _ H3.out (by simp)
  have h3 := put_blk [.slice A_0 x.right.length k_0, .bool x.lit] 2 W1 _ H3.out
  simp only [setMany, List.setIfInBounds_toArray, List.set_cons_zero, List.set_cons_succ] at h3
  have hBn : Below (w.heap.size + 1) U (putCells W1 (w.heap.size + 1 + 1) 2 [.slice A_0 x.right.length k_0, .bool x.lit]) := hY1.trans (hP.below (by omega))
  have hLn : Later (w.heap.size + 3) W1 (putCells W1 (w.heap.size + 1 + 1) 2 [.slice A_0 x.right.length k_0, .bool x.lit]) := Later.of_put hP (by omega)
  have h2 := (hP.far (w.heap.size + 1) (by omega)).trans H2.out
  have hZn : w.heap.size + 3 ≤ (putCells W1 (w.heap.size + 1 + 1) 2 [.slice A_0 x.right.length k_0, .bool x.lit]).heap.size := by rw [hP.size]; exact hS1
  clear hP q2 g2 q3 g3
  generalize putCells W1 (w.heap.size + 1 + 1) 2 [.slice A_0 x.right.length k_0, .bool x.lit] = V1 at h3 h2 hBn hLn hZn ⊢
  have hB1 := hBn
  have HK0 := hide hLn
  have HR3_1 := hide h3
  have HR2_1 := hide h2
  have hT1 := hZn
  clear hBn hLn h3 h2 hZn hY1 hS1
  refine Calls.mono (cs_Eqn D x.eqs _ F4 _ (HX1.out _ (Hw.out _ hB1)) Hb1.out.1 Hb1.out.2) ?_
  rintro en W2 ⟨u1_0, G1, rfl, hR, hf, hb⟩
  obtain ⟨A_1, k_1, rfl, _, _⟩ := hR.form
  have HR1 := hide hR
  have Hf1 := hide hf
  have hY2 : Below (w.heap.size + 1) U W2 := below_step hB1 hn0 hb
  have HL1 : Hid (Later (w.heap.size + 3) V1 W2) := hide (Later.of_below hb)
  have h3 := blk_below HR3_1.out hb (by omega)
  have h2 := blk_below HR2_1.out hb (by omega)
  have hY := hb.size
  have hS2 : w.heap.size + 3 ≤ W2.heap.size := by omega
  clear hR hf hb hY
  have q4 := cell_at (i := 4) h3 (by simp)
  have g4 := frozen_of_row W2 (w.heap.size + 1 + 1) 4 _ _ h3
  simp only [Array.getD_eq_getD_getElem?, List.getElem?_toArray, List.getElem?_cons_succ, List.getElem?_cons_zero, Option.getD_some] at q4
  have H3 := hide h3
  have H2 := hide h2
  clear h3 h2
  go_wp2_with fail
  show Calls _ _ _ (putCells W2 (w.heap.size + 1 + 1) 4 [.slice A_1 x.eqs.length k_1]) _
  have hP := put_spec [.slice A_1 x.eqs.length k_1] 4 W2 _ H3.out (by simp)
  have h3 := put_blk [.slice A_1 x.eqs.length k_1] 4 W2 _ H3.out
  simp only [setMany, List.setIfInBounds_toArray, List.set_cons_zero, List.set_cons_succ] at h3
  have hBn : Below (w.heap.size + 1) U (putCells W2 (w.heap.size + 1 + 1) 4 [.slice A_1 x.eqs.length k_1]) := hY2.trans (hP.below (by omega))
  have hLn : Later (w.heap.size + 3) W2 (putCells W2 (w.heap.size + 1 + 1) 4 [.slice A_1 x.eqs.length k_1]) := Later.of_put hP (by omega)
  have h2 := (hP.far (w.heap.size + 1) (by omega)).trans H2.out
  have hZn : w.heap.size + 3 ≤ (putCells W2 (w.heap.size + 1 + 1) 4 [.slice A_1 x.eqs.length k_1]).heap.size := by rw [hP.size]; exact hS2
  clear hP q4 g4
  generalize putCells W2 (w.heap.size + 1 + 1) 4 [.slice A_1 x.eqs.length k_1] = V2 at h3 h2 hBn hLn hZn ⊢
  have hB2 := hBn
  have HK1 := hide hLn
  have HR3_2 := hide h3
  have HR2_2 := hide h2
  have hT2 := hZn
  clear hBn hLn h3 h2 hZn hY2 hS2
  refine Calls.mono (cs_Con D x.cons _ F5 _ (HX2.out _ (Hw.out _ hB2)) Hb2.out.1 Hb2.out.2) ?_
  rintro en W3 ⟨u2_0, G2, rfl, hR, hf, hb⟩
  obtain ⟨A_2, k_2, rfl, _, _⟩ := hR.form
  have HR2 := hide hR
  have Hf2 := hide hf
  have hY3 : Below (w.heap.size + 1) U W3 := below_step hB2 hn0 hb
  have HL2 : Hid (Later (w.heap.size + 3) V2 W3) := hide (Later.of_below hb)
  have h3 := blk_below HR3_2.out hb (by omega)
  have h2 := blk_below HR2_2.out hb (by omega)
  have hY := hb.size
  have hS3 : w.heap.size + 3 ≤ W3.heap.size := by omega
  clear hR hf hb hY
  have q0 := cell_at (i := 0) h3 (by simp)
  have g0 := frozen_of_row W3 (w.heap.size + 1 + 1) 0 _ _ h3
  have q1 := cell_at (i := 1) h3 (by simp)
  have g1 := frozen_of_row W3 (w.heap.size + 1 + 1) 1 _ _ h3
  have q2 := cell_at (i := 2) h3 (by simp)
  have g2 := frozen_of_row W3 (w.heap.size + 1 + 1) 2 _ _ h3
  have q3 := cell_at (i := 3) h3 (by simp)
  have g3 := frozen_of_row W3 (w.heap.size + 1 + 1) 3 _ _ h3
  have q4 := cell_at (i := 4) h3 (by simp)
  have g4 := frozen_of_row W3 (w.heap.size + 1 + 1) 4 _ _ h3
  have q5 := cell_at (i := 5) h3 (by simp)
  have g5 := frozen_of_row W3 (w.heap.size + 1 + 1) 5 _ _ h3
  have r0 := cell_at (i := 0) h2 (by simp)
  have s0 := frozen_of_row W3 (w.heap.size + 1) 0 _ _ h2
  have r1 := cell_at (i := 1) h2 (by simp)
  have s1 := frozen_of_row W3 (w.heap.size + 1) 1 _ _ h2
  have r2 := cell_at (i := 2) h2 (by simp)
  have s2 := frozen_of_row W3 (w.heap.size + 1) 2 _ _ h2
  have r3 := cell_at (i := 3) h2 (by simp)
  have s3 := frozen_of_row W3 (w.heap.size + 1) 3 _ _ h2
  have r4 := cell_at (i := 4) h2 (by simp)
  have s4 := frozen_of_row W3 (w.heap.size + 1) 4 _ _ h2
  have r5 := cell_at (i := 5) h2 (by simp)
  have s5 := frozen_of_row W3 (w.heap.size + 1) 5 _ _ h2
  simp only [Array.getD_eq_getD_getElem?, List.getElem?_toArray, List.getElem?_cons_succ, List.getElem?_cons_zero, Option.getD_some] at q0 q1 q2 q3 q4 q5 r0 r1 r2 r3 r4 r5
  have H3 := hide h3
  have H2 := hide h2
  clear h3 h2
  go_wp2_with fail
  change bodyPost _ _ _ _ _ (putCells (putCells W3 (w.heap.size + 1 + 1) 5 [.slice A_2 x.cons.length k_2]) (w.heap.size + 1) 0 [.string x.name, .string x.left, .slice A_0 x.right.length k_0, .bool x.lit, .slice A_1 x.eqs.length k_1, .slice A_2 x.cons.length k_2])
  have hP := put_spec [.slice A_2 x.cons.length k_2] 5 W3 _ H3.out (by simp)
  have hQ := put_spec [.string x.name, .string x.left, .slice A_0 x.right.length k_0, .bool x.lit, .slice A_1 x.eqs.length k_1, .slice A_2 x.cons.length k_2] 0 (putCells W3 (w.heap.size + 1 + 1) 5 [.slice A_2 x.cons.length k_2]) _ ((hP.far (w.heap.size + 1) (by omega)).trans H2.out) (by simp)
  have hB : Below (w.heap.size + 1) U (putCells (putCells W3 (w.heap.size + 1 + 1) 5 [.slice A_2 x.cons.length k_2]) (w.heap.size + 1) 0 [.string x.name, .string x.left, .slice A_0 x.right.length k_0, .bool x.lit, .slice A_1 x.eqs.length k_1, .slice A_2 x.cons.length k_2]) := hY3.trans ((hP.below (by omega)).trans (hQ.below (by omega)))
  have hL : Later (w.heap.size + 3) W3 (putCells (putCells W3 (w.heap.size + 1 + 1) 5 [.slice A_2 x.cons.length k_2]) (w.heap.size + 1) 0 [.string x.name, .string x.left, .slice A_0 x.right.length k_0, .bool x.lit, .slice A_1 x.eqs.length k_1, .slice A_2 x.cons.length k_2]) := (Later.of_put hP (by omega)).trans (Later.of_put hQ (by omega))
  have hC := hQ.cellsAt
  generalize putCells (putCells W3 (w.heap.size + 1 + 1) 5 [.slice A_2 x.cons.length k_2]) (w.heap.size + 1) 0 [.string x.name, .string x.left, .slice A_0 x.right.length k_0, .bool x.lit, .slice A_1 x.eqs.length k_1, .slice A_2 x.cons.length k_2] = WF at hB hL hC ⊢
  have x0 : WF.cell? ⟨(w.heap.size + 1), 0, none⟩ = some (.string x.name) := hC 0 _ rfl
  have x1 : WF.cell? ⟨(w.heap.size + 1), 1, none⟩ = some (.string x.left) := (show WF.cell? ⟨(w.heap.size + 1), 0 + 1, none⟩ = _ from hC 1 _ rfl)
  have x2 : WF.cell? ⟨(w.heap.size + 1), 2, none⟩ = some (.slice A_0 x.right.length k_0) := (show WF.cell? ⟨(w.heap.size + 1), 0 + 2, none⟩ = _ from hC 2 _ rfl)
  have x3 : WF.cell? ⟨(w.heap.size + 1), 3, none⟩ = some (.bool x.lit) := (show WF.cell? ⟨(w.heap.size + 1), 0 + 3, none⟩ = _ from hC 3 _ rfl)
  have x4 : WF.cell? ⟨(w.heap.size + 1), 4, none⟩ = some (.slice A_1 x.eqs.length k_1) := (show WF.cell? ⟨(w.heap.size + 1), 0 + 4, none⟩ = _ from hC 4 _ rfl)
  have x5 : WF.cell? ⟨(w.heap.size + 1), 5, none⟩ = some (.slice A_2 x.cons.length k_2) := (show WF.cell? ⟨(w.heap.size + 1), 0 + 5, none⟩ = _ from hC 5 _ rfl)
  have hFin : RulR D WF x [.string x.name, .string x.left, .slice A_0 x.right.length k_0, .bool x.lit, .slice A_1 x.eqs.length k_1, .slice A_2 x.cons.length k_2] (G0 ++ (G1 ++ G2)) := ⟨_, G0, _, G1, _, G2, rfl, Hk.out, rfl, rfl, ⟨rfl, HR0.out.later (StrR.good D) Hf0.out (HK0.out.trans (HL1.out.trans (HK1.out.trans (HL2.out.trans (hL))))) (by omega)⟩, rfl, ⟨rfl, HR1.out.later (EqnR.good D) Hf1.out (HK1.out.trans (HL2.out.trans (hL))) (by omega)⟩, ⟨rfl, HR2.out.later (ConR.good D) Hf2.out (hL) (by omega)⟩, rfl⟩
  have hFr : Fresh w.heap.size WF (G0 ++ (G1 ++ G2)) := ((Hf0.out.later (HK0.out.trans (HL1.out.trans (HK1.out.trans (HL2.out.trans (hL))))) (by omega)).append ((Hf1.out.later (HK1.out.trans (HL2.out.trans (hL))) (by omega)).append (Hf2.out.later (hL) (by omega)) (fun b hb => by have := Hf1.out.lt b hb; have := HK1.out.size; omega) (by have := HK1.out.size; have := HL1.out.size; omega)) (fun b hb => by have := Hf0.out.lt b hb; have := HK0.out.size; omega) (by have := HK0.out.size; have := HL0.out.size; omega)).mono (by omega)
  exact bodyPost_ret (v := .agg #[.string x.name, .string x.left, .slice A_0 x.right.length k_0, .bool x.lit, .slice A_1 x.eqs.length k_1, .slice A_2 x.cons.length k_2]) (by simp [results, Tryz.results36, go_sem, x0, x1, x2, x3, x4, x5]) rfl ⟨[.string x.name, .string x.left, .slice A_0 x.right.length k_0, .bool x.lit, .slice A_1 x.eqs.length k_1, .slice A_2 x.cons.length k_2], (G0 ++ (G1 ++ G2)), rfl, hFin, hFr, Hw.out _ hB⟩
end Go.Proofs.YthlhhnnlbpecnaaGreat
