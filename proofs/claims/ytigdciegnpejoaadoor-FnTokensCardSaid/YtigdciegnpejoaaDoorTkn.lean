/- Tokens: how they lie in memory, their sizes, copies and comparisons. Conditions: a size is asked with at most 2^20; a copy is asked of what has at most that size. -/
import Derived.Test.YtigdciegnpejoaaDoorRows
import Derived.Test.YtigdciegnpejoaaDoorStrs
import Derived.Test.YtigdciegnpejoaaDoorFrame
import Derived.Deep.QuietTactic
namespace Go.Proofs.YtigdciegnpejoaaDoor
set_option maxRecDepth 100000
open Go.RowKit Go.WideShapes
set_option linter.unusedVariables false

structure Tkn where
  kind : Int
  n : Int
  off : Int
  text : ByteArray
structure Tkn.ok (x : Tkn) : Prop where
  kind : (Lit.int .i64 x.kind).wf = true
  n : (Lit.int .i64 x.n).wf = true
  off : (Lit.int .i64 x.off).wf = true
  text : x.text.size ≤ maxLen
def TknR (D : Nat) : CR Tkn := fun w x cs F => cs.length = 4 ∧ x.ok ∧ cs[0]? = some (.int .i64 x.kind) ∧ cs[1]? = some (.int .i64 x.n) ∧ cs[2]? = some (.int .i64 x.off) ∧ cs[3]? = some (.string x.text) ∧ F = []
theorem TknR.good (D : Nat) : Good 4 (TknR D) where
  len := fun {w x cs F} h => by
    obtain ⟨hl, hk, h0, h1, h2, h3, rfl⟩ := h
    exact hl
  frame := fun {w w' x cs F} h he hz => by
    obtain ⟨hl, hk, h0, h1, h2, h3, rfl⟩ := h
    exact ⟨hl, hk, h0, h1, h2, h3, rfl⟩
  lt := fun {w x cs F} h b hb => by
    obtain ⟨hl, hk, h0, h1, h2, h3, rfl⟩ := h
    cases hb
theorem TknR.up {D : Nat} {w : World} {x : Tkn} {cs : List Value} {F : List Nat} (h : TknR D w x cs F) (D' : Nat) (hd : D ≤ D') : TknR D' w x cs F := by
  obtain ⟨hl, hk, h0, h1, h2, h3, rfl⟩ := h
  exact ⟨hl, hk, h0, h1, h2, h3, rfl⟩
theorem TknR.one {D : Nat} {w : World} {x : Tkn} {cs : List Value} {F : List Nat} (h : TknR D w x cs F) : ∀ v ∈ cs, v.oneCell' = true := by
  obtain ⟨c0, c1, c2, c3, rfl⟩ := list4 ((TknR.good D).len h)
  obtain ⟨hl, hk, h0, h1, h2, h3, rfl⟩ := h
  intro v hv
  simp only [List.mem_cons, List.not_mem_nil, or_false] at hv
  rcases hv with rfl | rfl | rfl | rfl
  · obtain rfl := Option.some.inj h0
    rfl
  · obtain rfl := Option.some.inj h1
    rfl
  · obtain rfl := Option.some.inj h2
    rfl
  · obtain rfl := Option.some.inj h3
    rfl
def bulkTkn (D : Nat) (x : Tkn) : Int := (x.text.size : Int)
theorem bulkTkn_nonneg (D : Nat) (x : Tkn) : 0 ≤ bulkTkn D x := by unfold bulkTkn; omega
set_option maxRecDepth 100000 in
theorem e_Tkn (D : Nat) (x : Tkn) (cs cs' : List Value) (F F' : List Nat) (w : World) (h : TknR D w x cs F) (h' : TknR D w x cs' F') :
    Calls Tryd.prog 53 #[.agg cs.toArray, .agg cs'.toArray] w fun en w' => en = .returned (.bool true) ∧ Below w.heap.size w w' := by
  obtain ⟨a0, a1, a2, a3, rfl⟩ := list4 ((TknR.good D).len h)
  obtain ⟨_, hk, h0, h1, h2, h3, rfl⟩ := h
  obtain rfl := Option.some.inj h0
  obtain rfl := Option.some.inj h1
  obtain rfl := Option.some.inj h2
  obtain rfl := Option.some.inj h3
  obtain ⟨b0, b1, b2, b3, rfl⟩ := list4 ((TknR.good D).len h')
  obtain ⟨_, phk, ph0, ph1, ph2, ph3, rfl⟩ := h'
  obtain rfl := Option.some.inj ph0
  obtain rfl := Option.some.inj ph1
  obtain rfl := Option.some.inj ph2
  obtain rfl := Option.some.inj ph3
  obtain ⟨C1, C2, hz0, hw0⟩ := boxes2 w [.int .i64 x.kind, .int .i64 x.n, .int .i64 x.off, .string x.text] [.int .i64 x.kind, .int .i64 x.n, .int .i64 x.off, .string x.text] 48 48
  show Calls _ _ #[.agg #[.int .i64 x.kind, .int .i64 x.n, .int .i64 x.off, .string x.text], .agg #[.int .i64 x.kind, .int .i64 x.n, .int .i64 x.off, .string x.text]] w _
  go_enter Tryd.func53, Tryd.ntmps53
  go_wp2_with fail
  go_ret
  exact ⟨rfl, hw0⟩
set_option maxRecDepth 100000 in
theorem es_Tkn (D : Nat) (l : List Tkn) (v v' : Value) (F F' : List Nat) (w : World) (hs : SlR 4 (TknR D) w l v F) (hs' : SlR 4 (TknR D) w l v' F') :
    Calls Tryd.prog 23 #[v, v'] w fun en w' => en = .returned (.bool true) ∧ Below w.heap.size w w' := by
  obtain ⟨A, cap, rfl, hlc, hm⟩ := hs.form
  obtain ⟨A', cap', rfl, hlc', hm'⟩ := hs'.form
  have HF := hide (hs.lt (TknR.good D))
  have HF' := hide (hs'.lt (TknR.good D))
  unfold maxLen at hm hm'
  have Hs := hide hs
  have Hs' := hide hs'
  clear hs hs'
  go_enter Tryd.func23, Tryd.ntmps23
  go_wp2_with fail
  go_loopw [5] (fun i wr => ∃ j : Nat, j ≤ l.length ∧ i = .int .i64 j ∧ Hid (Below w.heap.size w wr)) (fun i _ => l.length - (intOf i).toNat)
  case atStart => exact ⟨0, by omega, rfl, hide (Below.refl _ _)⟩
  case round =>
    obtain ⟨j, hj, rfl, Hb⟩ := hrel
    by_cases hlt : j < l.length
    · have hx : l[j]? = some l[j] := List.getElem?_eq_getElem hlt
      generalize l[j] = x at hx
      obtain ⟨b, off, cs, Fk, hA, _, hbF, hFk, hcl, hcat, hR⟩ := SlR.get (TknR.good D) (Hs.out.below (TknR.good D) Hb.out HF.out) hx
      subst hA
      obtain ⟨a0, a1, a2, a3, rfl⟩ := list4 hcl
      obtain ⟨b', off', cs', Fk', hA, _, hbF', hFk', hcl', hcat', hR'⟩ := SlR.get (TknR.good D) (Hs'.out.below (TknR.good D) Hb.out HF'.out) hx
      subst hA
      obtain ⟨b0, b1, b2, b3, rfl⟩ := list4 hcl'
      have hblt := Nat.lt_of_lt_of_le (HF.out b hbF) Hb.out.size
      have hblt' := Nat.lt_of_lt_of_le (HF'.out b' hbF') Hb.out.size
      have e0 : ∀ W : World, Below wr.heap.size wr W → W.cell? ⟨b, off + j * 4, none⟩ = some a0 := fun W h => (hcat.below h hblt) 0 _ rfl
      have e1 : ∀ W : World, Below wr.heap.size wr W → W.cell? ⟨b, off + j * 4 + 1, none⟩ = some a1 := fun W h => (hcat.below h hblt) 1 _ rfl
      have e2 : ∀ W : World, Below wr.heap.size wr W → W.cell? ⟨b, off + j * 4 + 2, none⟩ = some a2 := fun W h => (hcat.below h hblt) 2 _ rfl
      have e3 : ∀ W : World, Below wr.heap.size wr W → W.cell? ⟨b, off + j * 4 + 3, none⟩ = some a3 := fun W h => (hcat.below h hblt) 3 _ rfl
      have g0 : ∀ W : World, Below wr.heap.size wr W → W.cell? ⟨b', off' + j * 4, none⟩ = some b0 := fun W h => (hcat'.below h hblt') 0 _ rfl
      have g1 : ∀ W : World, Below wr.heap.size wr W → W.cell? ⟨b', off' + j * 4 + 1, none⟩ = some b1 := fun W h => (hcat'.below h hblt') 1 _ rfl
      have g2 : ∀ W : World, Below wr.heap.size wr W → W.cell? ⟨b', off' + j * 4 + 2, none⟩ = some b2 := fun W h => (hcat'.below h hblt') 2 _ rfl
      have g3 : ∀ W : World, Below wr.heap.size wr W → W.cell? ⟨b', off' + j * 4 + 3, none⟩ = some b3 := fun W h => (hcat'.below h hblt') 3 _ rfl
      have HR := hide hR
      have HR' := hide hR'
      have hj0 : (0 : Int) ≤ (j : Int) := by omega
      have hj1 : (j : Int) < (l.length : Int) := by omega
      have hBr : Below wr.heap.size wr wr := Below.refl _ _
      clear hx hR hR' hcat hcat' hFk hFk' hbF hbF' hcl hcl'
      go_wp2_with fail
      go_region_held3 (fun W => Below wr.heap.size wr W)
        (first | assumption | exact Below.drew (by assumption))
        ((go_at_call 53; refine Calls.mono (e_Tkn D x _ _ Fk Fk' _ ((TknR.good D).heap HR.out rfl) ((TknR.good D).heap HR'.out rfl)) ?_; rintro en w2 ⟨rfl, hb2⟩; have hB2 : Below wr.heap.size wr w2 := below_step (by (repeat (first | assumption | apply Below.drew))) (Nat.le_refl _) hb2; clear hb2))
      have HB2 : Hid (Below w.heap.size w w2) := hide (Hb.out.trans (hB2.mono Hb.out.size))
      clear hB2
      go_wp2_with fail
      go_roundw
      case rel => exact ⟨j + 1, by omega, by go_num, HB2⟩
      case measure => simp [intOf]; omega
    · go_wp2_with fail
      go_ret
      exact ⟨rfl, Hb.out⟩
end Go.Proofs.YtigdciegnpejoaaDoor
