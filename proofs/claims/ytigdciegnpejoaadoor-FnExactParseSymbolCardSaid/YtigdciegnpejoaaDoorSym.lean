/- Attributes and symbols: how they lie in memory, their sizes, comparisons and copies. Conditions: a size is asked with at most 2^20; a copy is asked of what has at most that size. -/
import Derived.Test.YtigdciegnpejoaaDoorRows
import Derived.Test.YtigdciegnpejoaaDoorStrs
import Derived.Test.YtigdciegnpejoaaDoorFrame
import Derived.Deep.QuietTactic
namespace Go.Proofs.YtigdciegnpejoaaDoor
set_option maxRecDepth 100000
open Go.RowKit Go.WideShapes
set_option linter.unusedVariables false

structure Atr where
  name : ByteArray
  type : Int
  mode : Int
  circ : Bool
structure Atr.ok (x : Atr) : Prop where
  name : x.name.size ≤ maxLen
  type : (Lit.int .i64 x.type).wf = true
  mode : (Lit.int .i64 x.mode).wf = true
def AtrR (D : Nat) : CR Atr := fun w x cs F => cs.length = 4 ∧ x.ok ∧ cs[0]? = some (.string x.name) ∧ cs[1]? = some (.int .i64 x.type) ∧ cs[2]? = some (.int .i64 x.mode) ∧ cs[3]? = some (.bool x.circ) ∧ F = []
theorem AtrR.good (D : Nat) : Good 4 (AtrR D) where
  len := fun {w x cs F} h => by
    obtain ⟨hl, hk, h0, h1, h2, h3, rfl⟩ := h
    exact hl
  frame := fun {w w' x cs F} h he hz => by
    obtain ⟨hl, hk, h0, h1, h2, h3, rfl⟩ := h
    exact ⟨hl, hk, h0, h1, h2, h3, rfl⟩
  lt := fun {w x cs F} h b hb => by
    obtain ⟨hl, hk, h0, h1, h2, h3, rfl⟩ := h
    cases hb
theorem AtrR.up {D : Nat} {w : World} {x : Atr} {cs : List Value} {F : List Nat} (h : AtrR D w x cs F) (D' : Nat) (hd : D ≤ D') : AtrR D' w x cs F := by
  obtain ⟨hl, hk, h0, h1, h2, h3, rfl⟩ := h
  exact ⟨hl, hk, h0, h1, h2, h3, rfl⟩
theorem AtrR.one {D : Nat} {w : World} {x : Atr} {cs : List Value} {F : List Nat} (h : AtrR D w x cs F) : ∀ v ∈ cs, v.oneCell' = true := by
  obtain ⟨c0, c1, c2, c3, rfl⟩ := list4 ((AtrR.good D).len h)
  obtain ⟨hl, hk, h0, h1, h2, h3, rfl⟩ := h
  intro v hv
  simp only [List.mem_cons, List.not_mem_nil, or_false] at hv
  rcases hv with rfl | rfl | rfl | rfl
  · obtain rfl := Option.some.inj h0
    rfl
  · obtain rfl := Option.some.inj h1
    rfl
  · obtain rfl := Option.some.inj h2
    rfl
  · obtain rfl := Option.some.inj h3
    rfl
def bulkAtr (D : Nat) (x : Atr) : Int := (x.name.size : Int)
theorem bulkAtr_nonneg (D : Nat) (x : Atr) : 0 ≤ bulkAtr D x := by unfold bulkAtr; omega
set_option maxRecDepth 100000 in
theorem e_Atr (D : Nat) (x : Atr) (cs cs' : List Value) (F F' : List Nat) (w : World) (h : AtrR D w x cs F) (h' : AtrR D w x cs' F') :
    Calls Tryd.prog 61 #[.agg cs.toArray, .agg cs'.toArray] w fun en w' => en = .returned (.bool true) ∧ Below w.heap.size w w' := by
  obtain ⟨a0, a1, a2, a3, rfl⟩ := list4 ((AtrR.good D).len h)
  obtain ⟨_, hk, h0, h1, h2, h3, rfl⟩ := h
  obtain rfl := Option.some.inj h0
  obtain rfl := Option.some.inj h1
  obtain rfl := Option.some.inj h2
  obtain rfl := Option.some.inj h3
  obtain ⟨b0, b1, b2, b3, rfl⟩ := list4 ((AtrR.good D).len h')
  obtain ⟨_, phk, ph0, ph1, ph2, ph3, rfl⟩ := h'
  obtain rfl := Option.some.inj ph0
  obtain rfl := Option.some.inj ph1
  obtain rfl := Option.some.inj ph2
  obtain rfl := Option.some.inj ph3
  obtain ⟨C1, C2, hz0, hw0⟩ := boxes2 w [.string x.name, .int .i64 x.type, .int .i64 x.mode, .bool x.circ] [.string x.name, .int .i64 x.type, .int .i64 x.mode, .bool x.circ] 36 36
  show Calls _ _ #[.agg #[.string x.name, .int .i64 x.type, .int .i64 x.mode, .bool x.circ], .agg #[.string x.name, .int .i64 x.type, .int .i64 x.mode, .bool x.circ]] w _
  go_enter Tryd.func61, Tryd.ntmps61
  go_wp2_with fail
  go_ret
  exact ⟨rfl, hw0⟩
set_option maxRecDepth 100000 in
theorem es_Atr (D : Nat) (l : List Atr) (v v' : Value) (F F' : List Nat) (w : World) (hs : SlR 4 (AtrR D) w l v F) (hs' : SlR 4 (AtrR D) w l v' F') :
    Calls Tryd.prog 34 #[v, v'] w fun en w' => en = .returned (.bool true) ∧ Below w.heap.size w w' := by
  obtain ⟨A, cap, rfl, hlc, hm⟩ := hs.form
  obtain ⟨A', cap', rfl, hlc', hm'⟩ := hs'.form
  have HF := hide (hs.lt (AtrR.good D))
  have HF' := hide (hs'.lt (AtrR.good D))
  unfold maxLen at hm hm'
  have Hs := hide hs
  have Hs' := hide hs'
  clear hs hs'
  go_enter Tryd.func34, Tryd.ntmps34
  go_wp2_with fail
  go_loopw [5] (fun i wr => ∃ j : Nat, j ≤ l.length ∧ i = .int .i64 j ∧ Hid (Below w.heap.size w wr)) (fun i _ => l.length - (intOf i).toNat)
  case atStart => exact ⟨0, by omega, rfl, hide (Below.refl _ _)⟩
  case round =>
    obtain ⟨j, hj, rfl, Hb⟩ := hrel
    by_cases hlt : j < l.length
    · have hx : l[j]? = some l[j] := List.getElem?_eq_getElem hlt
      generalize l[j] = x at hx
      obtain ⟨b, off, cs, Fk, hA, _, hbF, hFk, hcl, hcat, hR⟩ := SlR.get (AtrR.good D) (Hs.out.below (AtrR.good D) Hb.out HF.out) hx
      subst hA
      obtain ⟨a0, a1, a2, a3, rfl⟩ := list4 hcl
      obtain ⟨b', off', cs', Fk', hA, _, hbF', hFk', hcl', hcat', hR'⟩ := SlR.get (AtrR.good D) (Hs'.out.below (AtrR.good D) Hb.out HF'.out) hx
      subst hA
      obtain ⟨b0, b1, b2, b3, rfl⟩ := list4 hcl'
      have hblt := Nat.lt_of_lt_of_le (HF.out b hbF) Hb.out.size
      have hblt' := Nat.lt_of_lt_of_le (HF'.out b' hbF') Hb.out.size
      have e0 : ∀ W : World, Below wr.heap.size wr W → W.cell? ⟨b, off + j * 4, none⟩ = some a0 := fun W h => (hcat.below h hblt) 0 _ rfl
      have e1 : ∀ W : World, Below wr.heap.size wr W → W.cell? ⟨b, off + j * 4 + 1, none⟩ = some a1 := fun W h => (hcat.below h hblt) 1 _ rfl
      have e2 : ∀ W : World, Below wr.heap.size wr W → W.cell? ⟨b, off + j * 4 + 2, none⟩ = some a2 := fun W h => (hcat.below h hblt) 2 _ rfl
      have e3 : ∀ W : World, Below wr.heap.size wr W → W.cell? ⟨b, off + j * 4 + 3, none⟩ = some a3 := fun W h => (hcat.below h hblt) 3 _ rfl
      have g0 : ∀ W : World, Below wr.heap.size wr W → W.cell? ⟨b', off' + j * 4, none⟩ = some b0 := fun W h => (hcat'.below h hblt') 0 _ rfl
      have g1 : ∀ W : World, Below wr.heap.size wr W → W.cell? ⟨b', off' + j * 4 + 1, none⟩ = some b1 := fun W h => (hcat'.below h hblt') 1 _ rfl
      have g2 : ∀ W : World, Below wr.heap.size wr W → W.cell? ⟨b', off' + j * 4 + 2, none⟩ = some b2 := fun W h => (hcat'.below h hblt') 2 _ rfl
      have g3 : ∀ W : World, Below wr.heap.size wr W → W.cell? ⟨b', off' + j * 4 + 3, none⟩ = some b3 := fun W h => (hcat'.below h hblt') 3 _ rfl
      have HR := hide hR
      have HR' := hide hR'
      have hj0 : (0 : Int) ≤ (j : Int) := by omega
      have hj1 : (j : Int) < (l.length : Int) := by omega
      have hBr : Below wr.heap.size wr wr := Below.refl _ _
      clear hx hR hR' hcat hcat' hFk hFk' hbF hbF' hcl hcl'
      go_wp2_with fail
      go_region_held3 (fun W => Below wr.heap.size wr W)
        (first | assumption | exact Below.drew (by assumption))
        ((go_at_call 61; refine Calls.mono (e_Atr D x _ _ Fk Fk' _ ((AtrR.good D).heap HR.out rfl) ((AtrR.good D).heap HR'.out rfl)) ?_; rintro en w2 ⟨rfl, hb2⟩; have hB2 : Below wr.heap.size wr w2 := below_step (by (repeat (first | assumption | apply Below.drew))) (Nat.le_refl _) hb2; clear hb2))
      have HB2 : Hid (Below w.heap.size w w2) := hide (Hb.out.trans (hB2.mono Hb.out.size))
      clear hB2
      go_wp2_with fail
      go_roundw
      case rel => exact ⟨j + 1, by omega, by go_num, HB2⟩
      case measure => simp [intOf]; omega
    · go_wp2_with fail
      go_ret
      exact ⟨rfl, Hb.out⟩
structure Sym where
  name : ByteArray
  attrs : List Atr
structure Sym.ok (x : Sym) : Prop where
  name : x.name.size ≤ maxLen
def SymR (D : Nat) : CR Sym := fun w x cs F => ∃ (v1 : Value) (F1 : List Nat), cs.length = 2 ∧ x.ok ∧ cs[0]? = some (.string x.name) ∧ (cs[1]? = some v1 ∧ SlR 4 (AtrR D) w x.attrs v1 F1) ∧ F = F1
theorem SymR.good (D : Nat) : Good 2 (SymR D) where
  len := fun {w x cs F} h => by
    obtain ⟨v1, F1, hl, hk, h0, ⟨h1, g1⟩, rfl⟩ := h
    exact hl
  frame := fun {w w' x cs F} h he hz => by
    obtain ⟨v1, F1, hl, hk, h0, ⟨h1, g1⟩, rfl⟩ := h
    exact ⟨v1, F, hl, hk, h0, ⟨h1, g1.frame (AtrR.good D) (fun k hk' => he k (hk')) hz⟩, rfl⟩
  lt := fun {w x cs F} h b hb => by
    obtain ⟨v1, F1, hl, hk, h0, ⟨h1, g1⟩, rfl⟩ := h
    exact g1.lt (AtrR.good D) b hb
theorem SymR.up {D : Nat} {w : World} {x : Sym} {cs : List Value} {F : List Nat} (h : SymR D w x cs F) (D' : Nat) (hd : D ≤ D') : SymR D' w x cs F := by
  obtain ⟨v1, F1, hl, hk, h0, ⟨h1, g1⟩, rfl⟩ := h
  exact ⟨v1, F, hl, hk, h0, ⟨h1, g1.mono fun _ _ _ q => AtrR.up q _ hd⟩, rfl⟩
theorem SymR.one {D : Nat} {w : World} {x : Sym} {cs : List Value} {F : List Nat} (h : SymR D w x cs F) : ∀ v ∈ cs, v.oneCell' = true := by
  obtain ⟨c0, c1, rfl⟩ := list2 ((SymR.good D).len h)
  obtain ⟨v1, F1, hl, hk, h0, ⟨h1, g1⟩, rfl⟩ := h
  intro v hv
  simp only [List.mem_cons, List.not_mem_nil, or_false] at hv
  rcases hv with rfl | rfl
  · obtain rfl := Option.some.inj h0
    rfl
  · obtain ⟨A, cap, hv, _, _⟩ := g1.form
    obtain rfl := Option.some.inj h1
    rw [hv]
    rfl
def bulkSym (D : Nat) (x : Sym) : Int := (x.name.size : Int) + (x.attrs.length + sumBy (bulkAtr D) x.attrs)
theorem bulkSym_nonneg (D : Nat) (x : Sym) : 0 ≤ bulkSym D x := by unfold bulkSym; have := sumBy_nonneg (bulkAtr_nonneg D) x.attrs; omega
set_option maxRecDepth 100000 in
theorem e_Sym (D : Nat) (x : Sym) (cs cs' : List Value) (F F' : List Nat) (w : World) (h : SymR D w x cs F) (h' : SymR D w x cs' F') :
    Calls Tryd.prog 9 #[.agg cs.toArray, .agg cs'.toArray] w fun en w' => en = .returned (.bool true) ∧ Below w.heap.size w w' := by
  obtain ⟨a0, a1, rfl⟩ := list2 ((SymR.good D).len h)
  obtain ⟨v1, F1, _, hk, h0, ⟨h1, g1⟩, rfl⟩ := h
  obtain rfl := Option.some.inj h0
  obtain rfl := Option.some.inj h1
  obtain ⟨b0, b1, rfl⟩ := list2 ((SymR.good D).len h')
  obtain ⟨pv1, pF1, _, phk, ph0, ⟨ph1, pg1⟩, rfl⟩ := h'
  obtain rfl := Option.some.inj ph0
  obtain rfl := Option.some.inj ph1
  have HF := hide (g1.lt (AtrR.good D))
  have HXF : Hid (∀ W : World, Below w.heap.size w W → SlR 4 (AtrR D) W x.attrs a1 F) := hide fun W hW => g1.below (AtrR.good D) hW HF.out
  clear g1
  have HF' := hide (pg1.lt (AtrR.good D))
  have HXF' : Hid (∀ W : World, Below w.heap.size w W → SlR 4 (AtrR D) W x.attrs b1 F') := hide fun W hW => pg1.below (AtrR.good D) hW HF'.out
  clear pg1
  obtain ⟨C1, C2, hz0, hw0⟩ := boxes2 w [.string x.name, a1] [.string x.name, b1] 24 24
  show Calls _ _ #[.agg #[.string x.name, a1], .agg #[.string x.name, b1]] w _
  go_enter Tryd.func9, Tryd.ntmps9
  go_wp2_with fail
  generalize (w.alloc (Obj.cells #[.string x.name, a1] 24)).alloc (Obj.cells #[.string x.name, b1] 24) = W0 at C1 C2 hz0 hw0 ⊢
  have hn0 : (w.heap.size + 2) ≤ W0.heap.size := by omega
  have Hw : Hid (∀ W : World, Below (w.heap.size + 2) W0 W → Below w.heap.size w W) := hide fun W h => hw0.trans (h.mono (by omega))
  have hB0 : Below (w.heap.size + 2) W0 W0 := Below.refl _ _
  have e0 := cell_rule C1 (n := (w.heap.size + 2)) (by omega) 0 (v := (.string x.name)) rfl
  have g0 := cell_rule C2 (n := (w.heap.size + 2)) (by omega) 0 (v := (.string x.name)) rfl
  have e1 := cell_rule C1 (n := (w.heap.size + 2)) (by omega) 1 (v := a1) rfl
  have g1 := cell_rule C2 (n := (w.heap.size + 2)) (by omega) 1 (v := b1) rfl
  clear C1 C2 hz0 hw0
  refine Calls.mono (es_Atr D x.attrs _ _ F F' _ (HXF.out _ (Hw.out _ hB0)) (HXF'.out _ (Hw.out _ hB0))) ?_
  rintro en W1 ⟨rfl, hb⟩
  have hB1 : Below (w.heap.size + 2) W0 W1 := below_step hB0 hn0 hb
  clear hb
  go_wp2_with fail
  go_ret
  exact ⟨rfl, Hw.out _ hB1⟩
end Go.Proofs.YtigdciegnpejoaaDoor
