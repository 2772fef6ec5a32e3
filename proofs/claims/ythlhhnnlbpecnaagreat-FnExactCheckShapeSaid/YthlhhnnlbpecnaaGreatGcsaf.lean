/- Several texts of one proof in one file: Attributes and symbols: how they lie in memory, their sizes, comparisons and copies. Conditions: each theorem names its own. -/
import Derived.Test.YthlhhnnlbpecnaaGreatRows
import Derived.Test.YthlhhnnlbpecnaaGreatGcsab
import Derived.Deep.QuietTactic

/- Attributes and symbols: how they lie in memory, their sizes, comparisons and copies. Conditions: a size is asked with at most 2^20; a copy is asked of what has at most that size. -/
namespace Go.Proofs.YthlhhnnlbpecnaaGreat
set_option linter.unusedSimpArgs false
set_option linter.unusedVariables false
set_option maxRecDepth 100000
open Go.RowKit Go.WideShapes
set_option linter.unusedVariables false

structure Atr where
  name : ByteArray
  type : Int
  mode : Int
  circ : Bool
structure Atr.ok (x : Atr) : Prop where
  name : x.name.size ≤ maxLen
  type : (Lit.int .i64 x.type).wf = true
  mode : (Lit.int .i64 x.mode).wf = true
def AtrR (D : Nat) : CR Atr := fun w x cs F => cs.length = 4 ∧ x.ok ∧ cs[0]? = some (.string x.name) ∧ cs[1]? = some (.int .i64 x.type) ∧ cs[2]? = some (.int .i64 x.mode) ∧ cs[3]? = some (.bool x.circ) ∧ F = []
theorem AtrR.good (D : Nat) : Good 4 (AtrR D) where
  len := fun {w x cs F} h => by
    obtain ⟨hl, hk, h0, h1, h2, h3, rfl⟩ := h
    exact hl
  frame := fun {w w' x cs F} h he hz => by
    obtain ⟨hl, hk, h0, h1, h2, h3, rfl⟩ := h
    exact ⟨hl, hk, h0, h1, h2, h3, rfl⟩
  lt := fun {w x cs F} h b hb => by
    obtain ⟨hl, hk, h0, h1, h2, h3, rfl⟩ := h
    cases hb
theorem AtrR.up {D : Nat} {w : World} {x : Atr} {cs : List Value} {F : List Nat} (h : AtrR D w x cs F) (D' : Nat) (hd : D ≤ D') : AtrR D' w x cs F := by
  obtain ⟨hl, hk, h0, h1, h2, h3, rfl⟩ := h
  exact ⟨hl, hk, h0, h1, h2, h3, rfl⟩
theorem AtrR.one {D : Nat} {w : World} {x : Atr} {cs : List Value} {F : List Nat} (h : AtrR D w x cs F) : ∀ v ∈ cs, v.oneCell' = true := by
  obtain ⟨c0, c1, c2, c3, rfl⟩ := list4 ((AtrR.good D).len h)
  obtain ⟨hl, hk, h0, h1, h2, h3, rfl⟩ := h
  intro v hv
  simp only [List.mem_cons, List.not_mem_nil, or_false] at hv
  rcases hv with rfl | rfl | rfl | rfl
  · obtain rfl := Option.some.inj h0
    rfl
  · obtain rfl := Option.some.inj h1
    rfl
  · obtain rfl := Option.some.inj h2
    rfl
  · obtain rfl := Option.some.inj h3
    rfl
def bulkAtr (D : Nat) (x : Atr) : Int := (x.name.size : Int)
theorem bulkAtr_nonneg (D : Nat) (x : Atr) : 0 ≤ bulkAtr D x := by unfold bulkAtr; omega
theorem cells_Atr {H : Type} {enc : TypeId × Value → H} {w : World} {base : Nat} {sp : Nat → Bool} {held : Bool} (fuel : Nat) {cs : List Value} {x : DataW H × List MemPlace}
    (h : DataW.trod enc Tryz.prog w base sp held fuel 132 cs = some x) : ∃ y F, AtrR fuel w y cs F := by
  have ht := Tryz.underlying132
  have hl := (trod_len ht h).trans (show Tryz.prog.cellsOf 132 = 4 by kernel_rfl)
  obtain ⟨c0, c1, c2, c3, rfl⟩ := list4 hl
  obtain ⟨z0, e0, w0⟩ := field_string 0 _ ht h rfl Tryz.underlying9 (by kernel_rfl)
  obtain ⟨z1, e1, w1⟩ := field_int 1 _ ht h rfl Tryz.underlying3 (by kernel_rfl)
  obtain ⟨z2, e2, w2⟩ := field_int 2 _ ht h rfl Tryz.underlying3 (by kernel_rfl)
  obtain ⟨z3, e3⟩ := field_bool 3 _ ht h rfl Tryz.underlying4 (by kernel_rfl)
  simp at e0 e1 e2 e3
  subst e0 e1 e2 e3
  exact ⟨⟨z0, z1, z2, z3⟩, _, rfl, ⟨w0, w1, w2⟩, rfl, rfl, rfl, rfl, rfl⟩
set_option maxRecDepth 100000 in
theorem open_Atr {H : Type} {enc : TypeId × Value → H} {w : World} {C base : Nat} {sp : Nat → Bool} {held : Bool} {v : Value} {d : DataW H} {p : List MemPlace} (hv : Value.okWide Tryz.prog w .any C 132 v)
    (h : DataW.Trod enc Tryz.prog w base sp held 132 v d p) : ∃ (D : Nat) (y : Atr) (cs : List Value) (F : List Nat), v = .agg cs.toArray ∧ AtrR D w y cs F := by
  obtain ⟨cs, fuel, x, rfl, hf⟩ := okWide_cells Tryz.underlying132 hv h
  obtain ⟨y, F, he⟩ := cells_Atr fuel hf
  exact ⟨fuel, y, _, F, rfl, he⟩
set_option maxRecDepth 100000 in
theorem z_Atr (D : Nat) (x : Atr) (cs : List Value) (F : List Nat) (w : World) (L : Int) (h : AtrR D w x cs F) (h0 : 0 ≤ L) (h1 : L ≤ 1048576) :
    Calls Tryz.prog 99 #[.agg cs.toArray, .int .i64 L] w fun en w' => Sized (bulkAtr D x) L en ∧ Below w.heap.size w w' := by
  obtain ⟨c0, c1, c2, c3, rfl⟩ := list4 ((AtrR.good D).len h)
  obtain ⟨_, hk, h0, h1, h2, h3, rfl⟩ := h
  obtain rfl := Option.some.inj h0
  obtain rfl := Option.some.inj h1
  obtain rfl := Option.some.inj h2
  obtain rfl := Option.some.inj h3
  have hs_name := hk.name
  unfold maxLen at hs_name
  clear hk
  obtain ⟨C, hz0, hw0⟩ := boxes1 w [.string x.name, .int .i64 x.type, .int .i64 x.mode, .bool x.circ] 132
  show Calls _ _ #[.agg #[.string x.name, .int .i64 x.type, .int .i64 x.mode, .bool x.circ], .int .i64 L] w _
  by_cases q_name : L < x.name.size
  · go_enter Tryz.func99, Tryz.ntmps99
    go_wp2_with fail
    go_ret
    exact ⟨⟨-1, rfl, .inl rfl⟩, hw0⟩
  go_enter Tryz.func99, Tryz.ntmps99
  go_wp2_with fail
  go_ret
  exact ⟨⟨_, rfl, .inr ⟨by omega, by unfold bulkAtr; omega⟩⟩, hw0⟩
set_option maxRecDepth 100000 in
theorem zs_Atr (D : Nat) (l : List Atr) (v : Value) (F : List Nat) (w : World) (L : Int) (hs : SlR 4 (AtrR D) w l v F) (h0 : 0 ≤ L) (h1 : L ≤ 1048576) :
    Calls Tryz.prog 61 #[v, .int .i64 L] w fun en w' => Sized (l.length + sumBy (bulkAtr D) l) L en ∧ Below w.heap.size w w' := by
  obtain ⟨A, cap, rfl, hlc, hm⟩ := hs.form
  have HF := hide (hs.lt (AtrR.good D))
  unfold maxLen at hm
  have Hs := hide hs
  have Hnn := hide (bulkAtr_nonneg D)
  clear hs
  by_cases hn : L < l.length
  · go_enter Tryz.func61, Tryz.ntmps61
    go_wp2_with fail
    go_ret
    exact ⟨⟨-1, rfl, .inl rfl⟩, Below.refl _ _⟩
  go_enter Tryz.func61, Tryz.ntmps61
  go_wp2_with fail
  go_loopw [1, 5] (fun c i wr => ∃ j : Nat, j ≤ l.length ∧ i = .int .i64 j ∧ c = .int .i64 (L - l.length - sumBy (bulkAtr D) (l.take j)) ∧ 0 ≤ L - l.length - sumBy (bulkAtr D) (l.take j) ∧ Hid (Below w.heap.size w wr)) (fun _ i _ => l.length - (intOf i).toNat)
  case atStart => exact ⟨0, by omega, rfl, by simp [sumBy], by simp [sumBy]; omega, hide (Below.refl _ _)⟩
  case round =>
    obtain ⟨j, hj, rfl, rfl, hge, Hb⟩ := hrel
    have hpos := sumBy_nonneg Hnn.out (l.take j)
    by_cases hlt : j < l.length
    · have hx : l[j]? = some l[j] := List.getElem?_eq_getElem hlt
      generalize l[j] = x at hx
      have Hsum := hide (sumBy_take_succ (f := bulkAtr D) hx)
      have hcx := Hnn.out x
      obtain ⟨b, off, cs, Fk, hA, _, hbF, hFk, hcl, hcat, hR⟩ := SlR.get (AtrR.good D) (Hs.out.below (AtrR.good D) Hb.out HF.out) hx
      subst hA
      obtain ⟨c0, c1, c2, c3, rfl⟩ := list4 hcl
      have e0 : wr.cell? ⟨b, off + j * 4, none⟩ = some c0 := hcat 0 _ rfl
      have e1 : wr.cell? ⟨b, off + j * 4 + 1, none⟩ = some c1 := hcat 1 _ rfl
      have e2 : wr.cell? ⟨b, off + j * 4 + 2, none⟩ = some c2 := hcat 2 _ rfl
      have e3 : wr.cell? ⟨b, off + j * 4 + 3, none⟩ = some c3 := hcat 3 _ rfl
      have hblt := Nat.lt_of_lt_of_le (HF.out b hbF) Hb.out.size
      have HR := hide hR
      clear hx hR hcat hFk hbF hcl
      go_wp2_with fail
      refine Calls.mono (z_Atr D x _ Fk _ (L - l.length - sumBy (bulkAtr D) (l.take j)) HR.out (by omega) (by omega)) ?_
      rintro en w2 ⟨⟨r, rfl, hr⟩, hb2⟩
      have HB2 : Hid (Below w.heap.size w w2) := hide (Hb.out.trans (hb2.mono Hb.out.size))
      clear hb2
      rcases hr with rfl | ⟨hr0, hr1⟩
      · go_wp2_with fail
        go_ret
        exact ⟨⟨-1, rfl, .inl rfl⟩, HB2.out⟩
      · have Hr1 := hide hr1
        clear hr1
        go_wp2_with fail
        go_roundw
        case rel => exact ⟨j + 1, by omega, by go_num, by rw [Hsum.out, Hr1.out]; go_num, by rw [Hsum.out]; have := Hr1.out; omega, HB2⟩
        case measure => simp [intOf]; omega
    · have hjl : j = l.length := by omega
      rw [hjl, List.take_length] at hge
      rw [hjl, List.take_length]
      go_wp2_with fail
      go_ret
      exact ⟨⟨_, rfl, .inr ⟨hge, by omega⟩⟩, Hb.out⟩
set_option maxRecDepth 100000 in
theorem e_Atr (D : Nat) (x : Atr) (cs cs' : List Value) (F F' : List Nat) (w : World) (h : AtrR D w x cs F) (h' : AtrR D w x cs' F') :
    Calls Tryz.prog 126 #[.agg cs.toArray, .agg cs'.toArray] w fun en w' => en = .returned (.bool true) ∧ Below w.heap.size w w' := by
  obtain ⟨a0, a1, a2, a3, rfl⟩ := list4 ((AtrR.good D).len h)
  obtain ⟨_, hk, h0, h1, h2, h3, rfl⟩ := h
  obtain rfl := Option.some.inj h0
  obtain rfl := Option.some.inj h1
  obtain rfl := Option.some.inj h2
  obtain rfl := Option.some.inj h3
  obtain ⟨b0, b1, b2, b3, rfl⟩ := list4 ((AtrR.good D).len h')
  obtain ⟨_, phk, ph0, ph1, ph2, ph3, rfl⟩ := h'
  obtain rfl := Option.some.inj ph0
  obtain rfl := Option.some.inj ph1
  obtain rfl := Option.some.inj ph2
  obtain rfl := Option.some.inj ph3
  obtain ⟨C1, C2, hz0, hw0⟩ := boxes2 w [.string x.name, .int .i64 x.type, .int .i64 x.mode, .bool x.circ] [.string x.name, .int .i64 x.type, .int .i64 x.mode, .bool x.circ] 44 44
  show Calls _ _ #[.agg #[.string x.name, .int .i64 x.type, .int .i64 x.mode, .bool x.circ], .agg #[.string x.name, .int .i64 x.type, .int .i64 x.mode, .bool x.circ]] w _
  go_enter Tryz.func126, Tryz.ntmps126
  go_wp2_with fail
  go_ret
  exact ⟨rfl, hw0⟩
set_option maxRecDepth 100000 in
theorem es_Atr (D : Nat) (l : List Atr) (v v' : Value) (F F' : List Nat) (w : World) (hs : SlR 4 (AtrR D) w l v F) (hs' : SlR 4 (AtrR D) w l v' F') :
    Calls Tryz.prog 95 #[v, v'] w fun en w' => en = .returned (.bool true) ∧ Below w.heap.size w w' := by
  obtain ⟨A, cap, rfl, hlc, hm⟩ := hs.form
  obtain ⟨A', cap', rfl, hlc', hm'⟩ := hs'.form
  have HF := hide (hs.lt (AtrR.good D))
  have HF' := hide (hs'.lt (AtrR.good D))
  unfold maxLen at hm hm'
  have Hs := hide hs
  have Hs' := hide hs'
  clear hs hs'
  go_enter Tryz.func95, Tryz.ntmps95
  go_wp2_with fail
  go_loopw [5] (fun i wr => ∃ j : Nat, j ≤ l.length ∧ i = .int .i64 j ∧ Hid (Below w.heap.size w wr)) (fun i _ => l.length - (intOf i).toNat)
  case atStart => exact ⟨0, by omega, rfl, hide (Below.refl _ _)⟩
  case round =>
    obtain ⟨j, hj, rfl, Hb⟩ := hrel
    by_cases hlt : j < l.length
    · have hx : l[j]? = some l[j] := List.getElem?_eq_getElem hlt
      generalize l[j] = x at hx
      obtain ⟨b, off, cs, Fk, hA, _, hbF, hFk, hcl, hcat, hR⟩ := SlR.get (AtrR.good D) (Hs.out.below (AtrR.good D) Hb.out HF.out) hx
      subst hA
      obtain ⟨a0, a1, a2, a3, rfl⟩ := list4 hcl
      obtain ⟨b', off', cs', Fk', hA, _, hbF', hFk', hcl', hcat', hR'⟩ := SlR.get (AtrR.good D) (Hs'.out.below (AtrR.good D) Hb.out HF'.out) hx
      subst hA
      obtain ⟨b0, b1, b2, b3, rfl⟩ := list4 hcl'
      have hblt := Nat.lt_of_lt_of_le (HF.out b hbF) Hb.out.size
      have hblt' := Nat.lt_of_lt_of_le (HF'.out b' hbF') Hb.out.size
      have e0 : ∀ W : World, Below wr.heap.size wr W → W.cell? ⟨b, off + j * 4, none⟩ = some a0 := fun W h => (hcat.below h hblt) 0 _ rfl
      have e1 : ∀ W : World, Below wr.heap.size wr W → W.cell? ⟨b, off + j * 4 + 1, none⟩ = some a1 := fun W h => (hcat.below h hblt) 1 _ rfl
      have e2 : ∀ W : World, Below wr.heap.size wr W → W.cell? ⟨b, off + j * 4 + 2, none⟩ = some a2 := fun W h => (hcat.below h hblt) 2 _ rfl
      have e3 : ∀ W : World, Below wr.heap.size wr W → W.cell? ⟨b, off + j * 4 + 3, none⟩ = some a3 := fun W h => (hcat.below h hblt) 3 _ rfl
      have g0 : ∀ W : World, Below wr.heap.size wr W → W.cell? ⟨b', off' + j * 4, none⟩ = some b0 := fun W h => (hcat'.below h hblt') 0 _ rfl
      have g1 : ∀ W : World, Below wr.heap.size wr W → W.cell? ⟨b', off' + j * 4 + 1, none⟩ = some b1 := fun W h => (hcat'.below h hblt') 1 _ rfl
      have g2 : ∀ W : World, Below wr.heap.size wr W → W.cell? ⟨b', off' + j * 4 + 2, none⟩ = some b2 := fun W h => (hcat'.below h hblt') 2 _ rfl
      have g3 : ∀ W : World, Below wr.heap.size wr W → W.cell? ⟨b', off' + j * 4 + 3, none⟩ = some b3 := fun W h => (hcat'.below h hblt') 3 _ rfl
      have HR := hide hR
      have HR' := hide hR'
      have hj0 : (0 : Int) ≤ (j : Int) := by omega
      have hj1 : (j : Int) < (l.length : Int) := by omega
      have hBr : Below wr.heap.size wr wr := Below.refl _ _
      clear hx hR hR' hcat hcat' hFk hFk' hbF hbF' hcl hcl'
      go_wp2_with fail
      go_region_held3 (fun W => Below wr.heap.size wr W)
        (first | assumption | exact Below.drew (by assumption))
        ((go_at_call 126; refine Calls.mono (e_Atr D x _ _ Fk Fk' _ ((AtrR.good D).heap HR.out rfl) ((AtrR.good D).heap HR'.out rfl)) ?_; rintro en w2 ⟨rfl, hb2⟩; have hB2 : Below wr.heap.size wr w2 := below_step (by (repeat (first | assumption | apply Below.drew))) (Nat.le_refl _) hb2; clear hb2))
      have HB2 : Hid (Below w.heap.size w w2) := hide (Hb.out.trans (hB2.mono Hb.out.size))
      clear hB2
      go_wp2_with fail
      go_roundw
      case rel => exact ⟨j + 1, by omega, by go_num, HB2⟩
      case measure => simp [intOf]; omega
    · go_wp2_with fail
      go_ret
      exact ⟨rfl, Hb.out⟩
set_option maxRecDepth 100000 in
theorem c_Atr (D : Nat) (x : Atr) (cs : List Value) (F : List Nat) (w : World) (h : AtrR D w x cs F) :
    Calls Tryz.prog 110 #[.agg cs.toArray] w fun en w' => ∃ us F', en = .returned (.agg (List.toArray us)) ∧ AtrR D w' x us F' ∧ Fresh w.heap.size w' F' ∧ Below w.heap.size w w' := by
  obtain ⟨c0, c1, c2, c3, rfl⟩ := list4 ((AtrR.good D).len h)
  obtain ⟨_, hk, h0, h1, h2, h3, rfl⟩ := h
  obtain rfl := Option.some.inj h0
  obtain rfl := Option.some.inj h1
  obtain rfl := Option.some.inj h2
  obtain rfl := Option.some.inj h3
  show Calls _ _ #[.agg #[.string x.name, .int .i64 x.type, .int .i64 x.mode, .bool x.circ]] w _
  go_enter Tryz.func110, Tryz.ntmps110
  go_wp2_with fail
  exact bodyPost_ret (v := .agg #[.string x.name, .int .i64 x.type, .int .i64 x.mode, .bool x.circ]) (by simp [results, Tryz.results110, go_sem]) rfl ⟨[.string x.name, .int .i64 x.type, .int .i64 x.mode, .bool x.circ], [], rfl, ⟨rfl, hk, rfl, rfl, rfl, rfl, rfl⟩, Fresh.nil _ _, (((Below.refl _ _).alloc (Nat.le_refl _) _).alloc (by simp) _).alloc (by simp; omega) _⟩
set_option maxRecDepth 100000 in
theorem cs_Atr (D : Nat) (l : List Atr) (v : Value) (F : List Nat) (w : World) (hs : SlR 4 (AtrR D) w l v F) (hl : l.length ≤ 1048576) (hbl : sumBy (bulkAtr D) l ≤ 1048576) :
    Calls Tryz.prog 75 #[v] w fun en w' => ∃ v' F', en = .returned v' ∧ SlR 4 (AtrR D) w' l v' F' ∧ Fresh w.heap.size w' F' ∧ Below w.heap.size w w' := by
  obtain ⟨A, cap, rfl, hlc, hm⟩ := hs.form
  have HF := hide (hs.lt (AtrR.good D))
  have Hs := hide hs
  have Hbl := hide (fun x (hx : x ∈ l) => Int.le_trans (sumBy_mem (f := bulkAtr D) (bulkAtr_nonneg D) hx) hbl)
  clear hs hbl hlc hm
  have hmk := fun W => run_make_rowN' (P := Tryz.prog) 40 44 (.agg #[.string ByteArray.empty, .int .i64 0, .int .i64 0, .bool false]) 4 40 Tryz.underlying40 (by kernel_rfl) .i64 .i64 l.length (by omega) (by omega) W
  have hst := fun (w : World) (a : Addr) (v : Value) (m : Mode) (hv : v.oneCell' = true) => run_store Tryz.prog w a v m hv
  go_enter Tryz.func75, Tryz.ntmps75
  go_wp2_with fail
  go_loopw [4] (fun i wr => ∃ (j : Nat) (F' : List Nat), j ≤ l.length ∧ i = .int .i64 j ∧ Hid (ElR 4 (AtrR D) wr w.heap.size 0 (l.take j) F') ∧ Hid (Fresh (w.heap.size + 1) wr F') ∧ Hid (∃ cs, wr.heap[w.heap.size]? = some (.cells cs 44 (0, 0)) ∧ cs.size = l.length * 4) ∧ Hid (Below w.heap.size w wr)) (fun i _ => l.length - (intOf i).toNat)
  case atStart => exact ⟨0, [], by omega, rfl, hide rfl, hide (Fresh.nil _ _), hide ⟨_, heap_alloc_new w _, by simp [madeCells]⟩, hide ((Below.refl _ _).alloc (Nat.le_refl _) _)⟩
  case round =>
    obtain ⟨j, F', hj, rfl, Hel, Hfr, Hbk, Hb⟩ := hrel
    by_cases hlt : j < l.length
    · have hx : l[j]? = some l[j] := List.getElem?_eq_getElem hlt
      generalize l[j] = x at hx
      have Hx := hide hx
      obtain ⟨b, off, cs, Fk, hA, _, hbF, hFk, hcl, hcat, hR⟩ := SlR.get (AtrR.good D) (Hs.out.below (AtrR.good D) Hb.out HF.out) hx
      subst hA
      obtain ⟨c0, c1, c2, c3, rfl⟩ := list4 hcl
      have e0 : wr.cell? ⟨b, off + j * 4, none⟩ = some c0 := hcat 0 _ rfl
      have e1 : wr.cell? ⟨b, off + j * 4 + 1, none⟩ = some c1 := hcat 1 _ rfl
      have e2 : wr.cell? ⟨b, off + j * 4 + 2, none⟩ = some c2 := hcat 2 _ rfl
      have e3 : wr.cell? ⟨b, off + j * 4 + 3, none⟩ = some c3 := hcat 3 _ rfl
      have hblt := Nat.lt_of_lt_of_le (HF.out b hbF) Hb.out.size
      have HR := hide hR
      have hbz := Hb.out.size
      clear hx hR hcat hFk hbF hcl
      go_wp2_with fail
      refine Calls.mono (c_Atr D x _ Fk _ HR.out) ?_
      rintro en w2 ⟨us, F2, rfl, hR2, hf2, hb2⟩
      obtain ⟨u0, u1, u2, u3, rfl⟩ := list4 ((AtrR.good D).len hR2)
      have ho := AtrR.one hR2
      have o0 := ho u0 (by simp)
      have o1 := ho u1 (by simp)
      have o2 := ho u2 (by simp)
      have o3 := ho u3 (by simp)
      obtain ⟨cs, hcs, hcz⟩ := Hbk.out
      have hcs2 : w2.heap[w.heap.size]? = some (.cells cs 44 (0, 0)) := blk_below hcs hb2 (blk_lt hcs)
      have q0 := cell_at (i := j * 4) hcs2 (by omega)
      have q1 := cell_at (i := j * 4 + 1) hcs2 (by omega)
      have q2 := cell_at (i := j * 4 + 2) hcs2 (by omega)
      have q3 := cell_at (i := j * 4 + 3) hcs2 (by omega)
      have g0 := frozen_of_row w2 w.heap.size (j * 4) _ _ hcs2
      have g1 := frozen_of_row w2 w.heap.size (j * 4 + 1) _ _ hcs2
      have g2 := frozen_of_row w2 w.heap.size (j * 4 + 2) _ _ hcs2
      have g3 := frozen_of_row w2 w.heap.size (j * 4 + 3) _ _ hcs2
      have HB2 := hide hb2
      have HR2 := hide hR2
      have Hf2 := hide hf2
      have Hcs0 := hide hcs
      clear hb2 hR2 hf2 hcs hcs2 ho
      go_wp2_with fail
      have hst := copy_step (w := w) (AtrR.good D) Hx.out Hel.out Hfr.out Hcs0.out hcz Hb.out HB2.out HR2.out Hf2.out rfl
      exact ⟨⟨j + 1, F' ++ F2, by omega, by go_num, hide hst.1, hide hst.2.1, hide hst.2.2.1, hide hst.2.2.2⟩, by simp [intOf]; omega⟩
    · have hjl : j = l.length := by omega
      subst hjl
      have Hel' : Hid (ElR 4 (AtrR D) wr w.heap.size 0 l F') := by have := Hel.out; rw [List.take_length] at this; exact hide this
      go_wp2_with fail
      go_ret
      obtain ⟨cs, hcs, _⟩ := Hbk.out
      obtain ⟨G, hG, hGf⟩ := copy_done (w := w) (by unfold maxLen; omega) Hel'.out Hfr.out hcs
      exact ⟨_, G, rfl, hG, hGf, Hb.out⟩
structure Sym where
  name : ByteArray
  attrs : List Atr
structure Sym.ok (x : Sym) : Prop where
  name : x.name.size ≤ maxLen
def SymR (D : Nat) : CR Sym := fun w x cs F => ∃ (v1 : Value) (F1 : List Nat), cs.length = 2 ∧ x.ok ∧ cs[0]? = some (.string x.name) ∧ (cs[1]? = some v1 ∧ SlR 4 (AtrR D) w x.attrs v1 F1) ∧ F = F1
theorem SymR.good (D : Nat) : Good 2 (SymR D) where
  len := fun {w x cs F} h => by
    obtain ⟨v1, F1, hl, hk, h0, ⟨h1, g1⟩, rfl⟩ := h
    exact hl
  frame := fun {w w' x cs F} h he hz => by
    obtain ⟨v1, F1, hl, hk, h0, ⟨h1, g1⟩, rfl⟩ := h
    exact ⟨v1, F, hl, hk, h0, ⟨h1, g1.frame (AtrR.good D) (fun k hk' => he k (hk')) hz⟩, rfl⟩
  lt := fun {w x cs F} h b hb => by
    obtain ⟨v1, F1, hl, hk, h0, ⟨h1, g1⟩, rfl⟩ := h
    exact g1.lt (AtrR.good D) b hb
theorem SymR.up {D : Nat} {w : World} {x : Sym} {cs : List Value} {F : List Nat} (h : SymR D w x cs F) (D' : Nat) (hd : D ≤ D') : SymR D' w x cs F := by
  obtain ⟨v1, F1, hl, hk, h0, ⟨h1, g1⟩, rfl⟩ := h
  exact ⟨v1, F, hl, hk, h0, ⟨h1, g1.mono fun _ _ _ q => AtrR.up q _ hd⟩, rfl⟩
theorem SymR.one {D : Nat} {w : World} {x : Sym} {cs : List Value} {F : List Nat} (h : SymR D w x cs F) : ∀ v ∈ cs, v.oneCell' = true := by
  obtain ⟨c0, c1, rfl⟩ := list2 ((SymR.good D).len h)
  obtain ⟨v1, F1, hl, hk, h0, ⟨h1, g1⟩, rfl⟩ := h
  intro v hv
  simp only [List.mem_cons, List.not_mem_nil, or_false] at hv
  rcases hv with rfl | rfl
  · obtain rfl := Option.some.inj h0
    rfl
  · obtain ⟨A, cap, hv, _, _⟩ := g1.form
    obtain rfl := Option.some.inj h1
    rw [hv]
    rfl
def bulkSym (D : Nat) (x : Sym) : Int := (x.name.size : Int) + (x.attrs.length + sumBy (bulkAtr D) x.attrs)
theorem bulkSym_nonneg (D : Nat) (x : Sym) : 0 ≤ bulkSym D x := by unfold bulkSym; have := sumBy_nonneg (bulkAtr_nonneg D) x.attrs; omega
theorem cells_Sym {H : Type} {enc : TypeId × Value → H} {w : World} {base : Nat} {sp : Nat → Bool} {held : Bool} (fuel : Nat) {cs : List Value} {x : DataW H × List MemPlace}
    (h : DataW.trod enc Tryz.prog w base sp held fuel 61 cs = some x) : ∃ y F, SymR fuel w y cs F := by
  have ht := Tryz.underlying61
  have hl := (trod_len ht h).trans (show Tryz.prog.cellsOf 61 = 2 by kernel_rfl)
  obtain ⟨c0, c1, rfl⟩ := list2 hl
  obtain ⟨z0, e0, w0⟩ := field_string 0 _ ht h rfl Tryz.underlying9 (by kernel_rfl)
  obtain ⟨n1, y1, hn1, k1⟩ := trod_field 1 _ ht h rfl
  have k1 : DataW.trod enc Tryz.prog w base sp held n1 59 (([c0, c1].drop 1).take (Tryz.prog.cellsOf 59)) = some y1 := k1
  rw [show Tryz.prog.cellsOf 59 = 1 by kernel_rfl] at k1
  obtain ⟨z1, v1, G1, b1, r1⟩ := open_SlR (n := 4) Tryz.underlying59 (by kernel_rfl) (by omega) (AtrR n1) k1 (fun m cs y hm hy => by
      obtain ⟨e, F, he⟩ := cells_Atr m hy
      exact ⟨e, F, he.up n1 (by omega)⟩)
  simp at e0 b1
  subst e0 b1
  exact ⟨⟨z0, z1⟩, _, _, G1, rfl, ⟨w0⟩, rfl, ⟨rfl, r1.mono fun x cs F (hx : AtrR n1 w x cs F) => hx.up fuel (by omega)⟩, rfl⟩
set_option maxRecDepth 100000 in
theorem open_Sym {H : Type} {enc : TypeId × Value → H} {w : World} {C base : Nat} {sp : Nat → Bool} {held : Bool} {v : Value} {d : DataW H} {p : List MemPlace} (hv : Value.okWide Tryz.prog w .any C 61 v)
    (h : DataW.Trod enc Tryz.prog w base sp held 61 v d p) : ∃ (D : Nat) (y : Sym) (cs : List Value) (F : List Nat), v = .agg cs.toArray ∧ SymR D w y cs F := by
  obtain ⟨cs, fuel, x, rfl, hf⟩ := okWide_cells Tryz.underlying61 hv h
  obtain ⟨y, F, he⟩ := cells_Sym fuel hf
  exact ⟨fuel, y, _, F, rfl, he⟩
set_option maxRecDepth 100000 in
theorem z_Sym (D : Nat) (x : Sym) (cs : List Value) (F : List Nat) (w : World) (L : Int) (h : SymR D w x cs F) (h0 : 0 ≤ L) (h1 : L ≤ 1048576) :
    Calls Tryz.prog 26 #[.agg cs.toArray, .int .i64 L] w fun en w' => Sized (bulkSym D x) L en ∧ Below w.heap.size w w' := by
  obtain ⟨c0, c1, rfl⟩ := list2 ((SymR.good D).len h)
  obtain ⟨v1, F1, _, hk, h0, ⟨h1, g1⟩, rfl⟩ := h
  obtain rfl := Option.some.inj h0
  obtain rfl := Option.some.inj h1
  have hs_name := hk.name
  unfold maxLen at hs_name
  clear hk
  have HF1 := hide (g1.lt (AtrR.good D))
  have HX1 : Hid (∀ W : World, Below w.heap.size w W → SlR 4 (AtrR D) W x.attrs c1 F) := hide fun W hW => g1.below (AtrR.good D) hW HF1.out
  clear g1
  obtain ⟨C, hz0, hw0⟩ := boxes1 w [.string x.name, c1] 61
  show Calls _ _ #[.agg #[.string x.name, c1], .int .i64 L] w _
  by_cases q_name : L < x.name.size
  · go_enter Tryz.func26, Tryz.ntmps26
    go_wp2_with fail
    go_ret
    exact ⟨⟨-1, rfl, .inl rfl⟩, hw0⟩
  go_enter Tryz.func26, Tryz.ntmps26
  go_wp2_with fail
  generalize w.alloc (Obj.cells #[.string x.name, c1] 61) = W0 at C hz0 hw0 ⊢
  have hn0 : (w.heap.size + 1) ≤ W0.heap.size := by omega
  have Hw : Hid (∀ W : World, Below (w.heap.size + 1) W0 W → Below w.heap.size w W) := hide fun W h => hw0.trans (h.mono (by omega))
  have hB0 : Below (w.heap.size + 1) W0 W0 := Below.refl _ _
  have e1 := cell_rule C (n := (w.heap.size + 1)) (by omega) 1 (v := c1) rfl
  clear C hz0 hw0
  refine Calls.mono (zs_Atr D x.attrs _ F _ (L - x.name.size) (HX1.out _ (Hw.out _ hB0)) (by omega) (by omega)) ?_
  rintro en W1 ⟨⟨r0, rfl, hr⟩, hb⟩
  have hB1 : Below (w.heap.size + 1) W0 W1 := below_step hB0 hn0 hb
  clear hb
  rcases hr with rfl | ⟨hr0, hq0⟩
  · go_wp2_with fail
    go_ret
    exact ⟨⟨-1, rfl, .inl rfl⟩, Hw.out _ hB1⟩
  have hn1 := sumBy_nonneg (bulkAtr_nonneg D) x.attrs
  have hl0 : r0 ≤ 1048576 := by omega
  have Hq0 := hide hq0
  clear hq0 hn1
  go_wp2_with fail
  go_ret
  exact ⟨⟨_, rfl, .inr ⟨by omega, by have := Hq0.out; unfold bulkSym; omega⟩⟩, Hw.out _ hB1⟩
set_option maxRecDepth 100000 in
theorem e_Sym (D : Nat) (x : Sym) (cs cs' : List Value) (F F' : List Nat) (w : World) (h : SymR D w x cs F) (h' : SymR D w x cs' F') :
    Calls Tryz.prog 59 #[.agg cs.toArray, .agg cs'.toArray] w fun en w' => en = .returned (.bool true) ∧ Below w.heap.size w w' := by
  obtain ⟨a0, a1, rfl⟩ := list2 ((SymR.good D).len h)
  obtain ⟨v1, F1, _, hk, h0, ⟨h1, g1⟩, rfl⟩ := h
  obtain rfl := Option.some.inj h0
  obtain rfl := Option.some.inj h1
  obtain ⟨b0, b1, rfl⟩ := list2 ((SymR.good D).len h')
  obtain ⟨pv1, pF1, _, phk, ph0, ⟨ph1, pg1⟩, rfl⟩ := h'
  obtain rfl := Option.some.inj ph0
  obtain rfl := Option.some.inj ph1
  have HF := hide (g1.lt (AtrR.good D))
  have HXF : Hid (∀ W : World, Below w.heap.size w W → SlR 4 (AtrR D) W x.attrs a1 F) := hide fun W hW => g1.below (AtrR.good D) hW HF.out
  clear g1
  have HF' := hide (pg1.lt (AtrR.good D))
  have HXF' : Hid (∀ W : World, Below w.heap.size w W → SlR 4 (AtrR D) W x.attrs b1 F') := hide fun W hW => pg1.below (AtrR.good D) hW HF'.out
  clear pg1
  obtain ⟨C1, C2, hz0, hw0⟩ := boxes2 w [.string x.name, a1] [.string x.name, b1] 42 42
  show Calls _ _ #[.agg #[.string x.name, a1], .agg #[.string x.name, b1]] w _
  go_enter Tryz.func59, Tryz.ntmps59
  go_wp2_with fail
  generalize (w.alloc (Obj.cells #[.string x.name, a1] 42)).alloc (Obj.cells #[.string x.name, b1] 42) = W0 at C1 C2 hz0 hw0 ⊢
  have hn0 : (w.heap.size + 2) ≤ W0.heap.size := by omega
  have Hw : Hid (∀ W : World, Below (w.heap.size + 2) W0 W → Below w.heap.size w W) := hide fun W h => hw0.trans (h.mono (by omega))
  have hB0 : Below (w.heap.size + 2) W0 W0 := Below.refl _ _
  have e0 := cell_rule C1 (n := (w.heap.size + 2)) (by omega) 0 (v := (.string x.name)) rfl
  have g0 := cell_rule C2 (n := (w.heap.size + 2)) (by omega) 0 (v := (.string x.name)) rfl
  have e1 := cell_rule C1 (n := (w.heap.size + 2)) (by omega) 1 (v := a1) rfl
  have g1 := cell_rule C2 (n := (w.heap.size + 2)) (by omega) 1 (v := b1) rfl
  clear C1 C2 hz0 hw0
  refine Calls.mono (es_Atr D x.attrs _ _ F F' _ (HXF.out _ (Hw.out _ hB0)) (HXF'.out _ (Hw.out _ hB0))) ?_
  rintro en W1 ⟨rfl, hb⟩
  have hB1 : Below (w.heap.size + 2) W0 W1 := below_step hB0 hn0 hb
  clear hb
  go_wp2_with fail
  go_ret
  exact ⟨rfl, Hw.out _ hB1⟩
set_option maxRecDepth 100000 in
theorem c_Sym (D : Nat) (x : Sym) (cs : List Value) (F : List Nat) (w : World) (h : SymR D w x cs F) (hbk : bulkSym D x ≤ 1048576) :
    Calls Tryz.prog 35 #[.agg cs.toArray] w fun en w' => ∃ us F', en = .returned (.agg (List.toArray us)) ∧ SymR D w' x us F' ∧ Fresh w.heap.size w' F' ∧ Below w.heap.size w w' := by
  obtain ⟨c0, c1, rfl⟩ := list2 ((SymR.good D).len h)
  obtain ⟨v1, F1, _, hk, h0, ⟨h1, g1⟩, rfl⟩ := h
  obtain rfl := Option.some.inj h0
  obtain rfl := Option.some.inj h1
  have Hk := hide hk
  clear hk
  have Hbk := hide hbk
  clear hbk
  have HF0 := hide (g1.lt (AtrR.good D))
  have HX0 : Hid (∀ W : World, Below w.heap.size w W → SlR 4 (AtrR D) W x.attrs c1 F) := hide fun W hW => g1.below (AtrR.good D) hW HF0.out
  clear g1
  have Hb0 : Hid (x.attrs.length ≤ 1048576 ∧ sumBy (bulkAtr D) x.attrs ≤ 1048576) := hide (by
    have hb := Hbk.out
    unfold bulkSym at hb
    have := sumBy_nonneg (bulkAtr_nonneg D) x.attrs
    omega)
  obtain ⟨C, hz0, hw0⟩ := boxes1 w [.string x.name, c1] 61
  show Calls _ _ #[.agg #[.string x.name, c1]] w _
  go_enter Tryz.func35, Tryz.ntmps35
  go_wp2_with fail
  have hA1 := heap_alloc_new (w.alloc (Obj.cells #[.string x.name, c1] 61)) (Obj.cells #[.string ⟨#[]⟩, .slice none 0 0] 42)
  have hA2 := heap_alloc_new ((w.alloc (Obj.cells #[.string x.name, c1] 61)).alloc (Obj.cells #[.string ⟨#[]⟩, .slice none 0 0] 42)) (Obj.cells #[.string x.name, .slice none 0 0] 42)
  have hA0 : Below (w.heap.size + 1) (w.alloc (Obj.cells #[.string x.name, c1] 61)) (((w.alloc (Obj.cells #[.string x.name, c1] 61)).alloc (Obj.cells #[.string ⟨#[]⟩, .slice none 0 0] 42)).alloc (Obj.cells #[.string x.name, .slice none 0 0] 42)) := ((Below.refl _ _).alloc (Nat.le_of_eq hz0.symm) _).alloc (by simp) _
  rw [hz0] at hA1
  have hA3 := (Below.heap_alloc ((w.alloc (Obj.cells #[.string x.name, c1] 61)).alloc (Obj.cells #[.string ⟨#[]⟩, .slice none 0 0] 42)) (Obj.cells #[.string x.name, .slice none 0 0] 42) (w.heap.size + 1) (by simp)).trans hA1
  have hz2 : (((w.alloc (Obj.cells #[.string x.name, c1] 61)).alloc (Obj.cells #[.string ⟨#[]⟩, .slice none 0 0] 42)).alloc (Obj.cells #[.string x.name, .slice none 0 0] 42)).heap.size = w.heap.size + 3 := by simp
  rw [World.size_alloc, hz0] at hA2
  clear hA1
  have hB0 := hA0
  generalize ((w.alloc (Obj.cells #[.string x.name, c1] 61)).alloc (Obj.cells #[.string ⟨#[]⟩, .slice none 0 0] 42)).alloc (Obj.cells #[.string x.name, .slice none 0 0] 42) = W0 at hA0 hA2 hA3 hz2 hB0 ⊢
  generalize w.alloc (Obj.cells #[.string x.name, c1] 61) = U at C hz0 hw0 hA0 hB0
  have hn0 : (w.heap.size + 1) ≤ U.heap.size := by omega
  have Hw : Hid (∀ W : World, Below (w.heap.size + 1) U W → Below w.heap.size w W) := hide fun W h => hw0.trans (h.mono (by omega))
  have e0 := cell_rule C (n := (w.heap.size + 1)) (by omega) 0 (v := (.string x.name)) rfl
  have e1 := cell_rule C (n := (w.heap.size + 1)) (by omega) 1 (v := c1) rfl
  have hZ0 : w.heap.size + 3 ≤ W0.heap.size := by omega
  clear C hz0 hw0 hA0 hz2
  have HR3_0 := hide hA2
  have HR2_0 := hide hA3
  clear hA2 hA3
  have hst := fun (w : World) (a : Addr) (v : Value) (m : Mode) (hv : v.oneCell' = true) => run_store Tryz.prog w a v m hv
  refine Calls.mono (cs_Atr D x.attrs _ F _ (HX0.out _ (Hw.out _ hB0)) Hb0.out.1 Hb0.out.2) ?_
  rintro en W1 ⟨u0_0, G0, rfl, hR, hf, hb⟩
  obtain ⟨A_0, k_0, rfl, _, _⟩ := hR.form
  have HR0 := hide hR
  have Hf0 := hide hf
  have hY1 : Below (w.heap.size + 1) U W1 := below_step hB0 hn0 hb
  have HL0 : Hid (Later (w.heap.size + 3) W0 W1) := hide (Later.of_below hb)
  have h3 := blk_below HR3_0.out hb (by omega)
  have h2 := blk_below HR2_0.out hb (by omega)
  have hY := hb.size
  have hS1 : w.heap.size + 3 ≤ W1.heap.size := by omega
  clear hR hf hb hY
  have q0 := cell_at (i := 0) h3 (by simp)
  have g0 := frozen_of_row W1 (w.heap.size + 1 + 1) 0 _ _ h3
  have q1 := cell_at (i := 1) h3 (by simp)
  have g1 := frozen_of_row W1 (w.heap.size + 1 + 1) 1 _ _ h3
  have r0 := cell_at (i := 0) h2 (by simp)
  have s0 := frozen_of_row W1 (w.heap.size + 1) 0 _ _ h2
  have r1 := cell_at (i := 1) h2 (by simp)
  have s1 := frozen_of_row W1 (w.heap.size + 1) 1 _ _ h2
  simp only [Array.getD_eq_getD_getElem?, List.getElem?_toArray, List.getElem?_cons_succ, List.getElem?_cons_zero, Option.getD_some] at q0 q1 r0 r1
  have H3 := hide h3
  have H2 := hide h2
  clear h3 h2
  go_wp2_with fail
  change bodyPost _ _ _ _ _ (putCells (putCells W1 (w.heap.size + 1 + 1) 1 [.slice A_0 x.attrs.length k_0]) (w.heap.size + 1) 0 [.string x.name, .slice A_0 x.attrs.length k_0])
  have hP := put_spec [.slice A_0 x.attrs.length k_0] 1 W1 _ H3.out (by simp)
  have hQ := put_spec [.string x.name, .slice A_0 x.attrs.length k_0] 0 (putCells W1 (w.heap.size + 1 + 1) 1 [.slice A_0 x.attrs.length k_0]) _ ((hP.far (w.heap.size + 1) (by omega)).trans H2.out) (by simp)
  have hB : Below (w.heap.size + 1) U (putCells (putCells W1 (w.heap.size + 1 + 1) 1 [.slice A_0 x.attrs.length k_0]) (w.heap.size + 1) 0 [.string x.name, .slice A_0 x.attrs.length k_0]) := hY1.trans ((hP.below (by omega)).trans (hQ.below (by omega)))
  have hL : Later (w.heap.size + 3) W1 (putCells (putCells W1 (w.heap.size + 1 + 1) 1 [.slice A_0 x.attrs.length k_0]) (w.heap.size + 1) 0 [.string x.name, .slice A_0 x.attrs.length k_0]) := (Later.of_put hP (by omega)).trans (Later.of_put hQ (by omega))
  have hC := hQ.cellsAt
  generalize putCells (putCells W1 (w.heap.size + 1 + 1) 1 [.slice A_0 x.attrs.length k_0]) (w.heap.size + 1) 0 [.string x.name, .slice A_0 x.attrs.length k_0] = WF at hB hL hC ⊢
  have x0 : WF.cell? ⟨(w.heap.size + 1), 0, none⟩ = some (.string x.name) := hC 0 _ rfl
  have x1 : WF.cell? ⟨(w.heap.size + 1), 1, none⟩ = some (.slice A_0 x.attrs.length k_0) := (show WF.cell? ⟨(w.heap.size + 1), 0 + 1, none⟩ = _ from hC 1 _ rfl)
  have hFin : SymR D WF x [.string x.name, .slice A_0 x.attrs.length k_0] G0 := ⟨_, G0, rfl, Hk.out, rfl, ⟨rfl, HR0.out.later (AtrR.good D) Hf0.out (hL) (by omega)⟩, rfl⟩
  have hFr : Fresh w.heap.size WF G0 := (Hf0.out.later (hL) (by omega)).mono (by omega)
  exact bodyPost_ret (v := .agg #[.string x.name, .slice A_0 x.attrs.length k_0]) (by simp [results, Tryz.results35, go_sem, x0, x1]) rfl ⟨[.string x.name, .slice A_0 x.attrs.length k_0], G0, rfl, hFin, hFr, Hw.out _ hB⟩
end Go.Proofs.YthlhhnnlbpecnaaGreat
