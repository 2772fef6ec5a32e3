/- Tokens: how they lie in memory, their sizes, copies and comparisons. Conditions: a size is asked with at most 2^20; a copy is asked of what has at most that size. -/
import Derived.Test.YtilibmialekpaaaDoorRows
import Derived.Test.YtilibmialekpaaaDoorStrs
import Derived.Test.YtilibmialekpaaaDoorFrame
import Derived.Deep.QuietTactic
namespace Go.Proofs.YtilibmialekpaaaDoor
set_option maxRecDepth 100000
open Go.RowKit Go.WideShapes
set_option linter.unusedVariables false

structure Tkn where
  kind : Int
  n : Int
  off : Int
  text : ByteArray
structure Tkn.ok (x : Tkn) : Prop where
  kind : (Lit.int .i64 x.kind).wf = true
  n : (Lit.int .i64 x.n).wf = true
  off : (Lit.int .i64 x.off).wf = true
  text : x.text.size ≤ maxLen
def TknR (D : Nat) : CR Tkn := fun w x cs F => cs.length = 4 ∧ x.ok ∧ cs[0]? = some (.int .i64 x.kind) ∧ cs[1]? = some (.int .i64 x.n) ∧ cs[2]? = some (.int .i64 x.off) ∧ cs[3]? = some (.string x.text) ∧ F = []
theorem TknR.good (D : Nat) : Good 4 (TknR D) where
  len := fun {w x cs F} h => by
    obtain ⟨hl, hk, h0, h1, h2, h3, rfl⟩ := h
    exact hl
  frame := fun {w w' x cs F} h he hz => by
    obtain ⟨hl, hk, h0, h1, h2, h3, rfl⟩ := h
    exact ⟨hl, hk, h0, h1, h2, h3, rfl⟩
  lt := fun {w x cs F} h b hb => by
    obtain ⟨hl, hk, h0, h1, h2, h3, rfl⟩ := h
    cases hb
theorem TknR.up {D : Nat} {w : World} {x : Tkn} {cs : List Value} {F : List Nat} (h : TknR D w x cs F) (D' : Nat) (hd : D ≤ D') : TknR D' w x cs F := by
  obtain ⟨hl, hk, h0, h1, h2, h3, rfl⟩ := h
  exact ⟨hl, hk, h0, h1, h2, h3, rfl⟩
theorem TknR.one {D : Nat} {w : World} {x : Tkn} {cs : List Value} {F : List Nat} (h : TknR D w x cs F) : ∀ v ∈ cs, v.oneCell' = true := by
  obtain ⟨c0, c1, c2, c3, rfl⟩ := list4 ((TknR.good D).len h)
  obtain ⟨hl, hk, h0, h1, h2, h3, rfl⟩ := h
  intro v hv
  simp only [List.mem_cons, List.not_mem_nil, or_false] at hv
  rcases hv with rfl | rfl | rfl | rfl
  · obtain rfl := Option.some.inj h0
    rfl
  · obtain rfl := Option.some.inj h1
    rfl
  · obtain rfl := Option.some.inj h2
    rfl
  · obtain rfl := Option.some.inj h3
    rfl
def bulkTkn (D : Nat) (x : Tkn) : Int := (x.text.size : Int)
theorem bulkTkn_nonneg (D : Nat) (x : Tkn) : 0 ≤ bulkTkn D x := by unfold bulkTkn; omega
theorem cells_Tkn {H : Type} {enc : TypeId × Value → H} {w : World} {base : Nat} {sp : Nat → Bool} {held : Bool} (fuel : Nat) {cs : List Value} {x : DataW H × List MemPlace}
    (h : DataW.trod enc Tryd.prog w base sp held fuel 95 cs = some x) : ∃ y F, TknR fuel w y cs F := by
  have ht := Tryd.underlying95
  have hl := (trod_len ht h).trans (show Tryd.prog.cellsOf 95 = 4 by kernel_rfl)
  obtain ⟨c0, c1, c2, c3, rfl⟩ := list4 hl
  obtain ⟨z0, e0, w0⟩ := field_int 0 _ ht h rfl Tryd.underlying3 (by kernel_rfl)
  obtain ⟨z1, e1, w1⟩ := field_int 1 _ ht h rfl Tryd.underlying3 (by kernel_rfl)
  obtain ⟨z2, e2, w2⟩ := field_int 2 _ ht h rfl Tryd.underlying3 (by kernel_rfl)
  obtain ⟨z3, e3, w3⟩ := field_string 3 _ ht h rfl Tryd.underlying9 (by kernel_rfl)
  simp at e0 e1 e2 e3
  subst e0 e1 e2 e3
  exact ⟨⟨z0, z1, z2, z3⟩, _, rfl, ⟨w0, w1, w2, w3⟩, rfl, rfl, rfl, rfl, rfl⟩
set_option maxRecDepth 100000 in
theorem open_Tkn {H : Type} {enc : TypeId × Value → H} {w : World} {C base : Nat} {sp : Nat → Bool} {held : Bool} {v : Value} {d : DataW H} {p : List MemPlace} (hv : Value.okWide Tryd.prog w .any C 95 v)
    (h : DataW.Trod enc Tryd.prog w base sp held 95 v d p) : ∃ (D : Nat) (y : Tkn) (cs : List Value) (F : List Nat), v = .agg cs.toArray ∧ TknR D w y cs F := by
  obtain ⟨cs, fuel, x, rfl, hf⟩ := okWide_cells Tryd.underlying95 hv h
  obtain ⟨y, F, he⟩ := cells_Tkn fuel hf
  exact ⟨fuel, y, _, F, rfl, he⟩
set_option maxRecDepth 100000 in
theorem z_Tkn (D : Nat) (x : Tkn) (cs : List Value) (F : List Nat) (w : World) (L : Int) (h : TknR D w x cs F) (h0 : 0 ≤ L) (h1 : L ≤ 1048576) :
    Calls Tryd.prog 66 #[.agg cs.toArray, .int .i64 L] w fun en w' => Sized (bulkTkn D x) L en ∧ Below w.heap.size w w' := by
  obtain ⟨c0, c1, c2, c3, rfl⟩ := list4 ((TknR.good D).len h)
  obtain ⟨_, hk, h0, h1, h2, h3, rfl⟩ := h
  obtain rfl := Option.some.inj h0
  obtain rfl := Option.some.inj h1
  obtain rfl := Option.some.inj h2
  obtain rfl := Option.some.inj h3
  have hs_text := hk.text
  unfold maxLen at hs_text
  clear hk
  obtain ⟨C, hz0, hw0⟩ := boxes1 w [.int .i64 x.kind, .int .i64 x.n, .int .i64 x.off, .string x.text] 95
  show Calls _ _ #[.agg #[.int .i64 x.kind, .int .i64 x.n, .int .i64 x.off, .string x.text], .int .i64 L] w _
  by_cases q_text : L < x.text.size
  · go_enter Tryd.func66, Tryd.ntmps66
    go_wp2_with fail
    go_ret
    exact ⟨⟨-1, rfl, .inl rfl⟩, hw0⟩
  go_enter Tryd.func66, Tryd.ntmps66
  go_wp2_with fail
  go_ret
  exact ⟨⟨_, rfl, .inr ⟨by omega, by unfold bulkTkn; omega⟩⟩, hw0⟩
set_option maxRecDepth 100000 in
theorem zs_Tkn (D : Nat) (l : List Tkn) (v : Value) (F : List Nat) (w : World) (L : Int) (hs : SlR 4 (TknR D) w l v F) (h0 : 0 ≤ L) (h1 : L ≤ 1048576) :
    Calls Tryd.prog 26 #[v, .int .i64 L] w fun en w' => Sized (l.length + sumBy (bulkTkn D) l) L en ∧ Below w.heap.size w w' := by
  obtain ⟨A, cap, rfl, hlc, hm⟩ := hs.form
  have HF := hide (hs.lt (TknR.good D))
  unfold maxLen at hm
  have Hs := hide hs
  have Hnn := hide (bulkTkn_nonneg D)
  clear hs
  by_cases hn : L < l.length
  · go_enter Tryd.func26, Tryd.ntmps26
    go_wp2_with fail
    go_ret
    exact ⟨⟨-1, rfl, .inl rfl⟩, Below.refl _ _⟩
  go_enter Tryd.func26, Tryd.ntmps26
  go_wp2_with fail
  go_loopw [1, 5] (fun c i wr => ∃ j : Nat, j ≤ l.length ∧ i = .int .i64 j ∧ c = .int .i64 (L - l.length - sumBy (bulkTkn D) (l.take j)) ∧ 0 ≤ L - l.length - sumBy (bulkTkn D) (l.take j) ∧ Hid (Below w.heap.size w wr)) (fun _ i _ => l.length - (intOf i).toNat)
  case atStart => exact ⟨0, by omega, rfl, by simp [sumBy], by simp [sumBy]; omega, hide (Below.refl _ _)⟩
  case round =>
    obtain ⟨j, hj, rfl, rfl, hge, Hb⟩ := hrel
    have hpos := sumBy_nonneg Hnn.out (l.take j)
    by_cases hlt : j < l.length
    · have hx : l[j]? = some l[j] := List.getElem?_eq_getElem hlt
      generalize l[j] = x at hx
      have Hsum := hide (sumBy_take_succ (f := bulkTkn D) hx)
      have hcx := Hnn.out x
      obtain ⟨b, off, cs, Fk, hA, _, hbF, hFk, hcl, hcat, hR⟩ := SlR.get (TknR.good D) (Hs.out.below (TknR.good D) Hb.out HF.out) hx
      subst hA
      obtain ⟨c0, c1, c2, c3, rfl⟩ := list4 hcl
      have e0 : wr.cell? ⟨b, off + j * 4, none⟩ = some c0 := hcat 0 _ rfl
      have e1 : wr.cell? ⟨b, off + j * 4 + 1, none⟩ = some c1 := hcat 1 _ rfl
      have e2 : wr.cell? ⟨b, off + j * 4 + 2, none⟩ = some c2 := hcat 2 _ rfl
      have e3 : wr.cell? ⟨b, off + j * 4 + 3, none⟩ = some c3 := hcat 3 _ rfl
      have hblt := Nat.lt_of_lt_of_le (HF.out b hbF) Hb.out.size
      have HR := hide hR
      clear hx hR hcat hFk hbF hcl
      go_wp2_with fail
      refine Calls.mono (z_Tkn D x _ Fk _ (L - l.length - sumBy (bulkTkn D) (l.take j)) HR.out (by omega) (by omega)) ?_
      rintro en w2 ⟨⟨r, rfl, hr⟩, hb2⟩
      have HB2 : Hid (Below w.heap.size w w2) := hide (Hb.out.trans (hb2.mono Hb.out.size))
      clear hb2
      rcases hr with rfl | ⟨hr0, hr1⟩
      · go_wp2_with fail
        go_ret
        exact ⟨⟨-1, rfl, .inl rfl⟩, HB2.out⟩
      · have Hr1 := hide hr1
        clear hr1
        go_wp2_with fail
        go_roundw
        case rel => exact ⟨j + 1, by omega, by go_num, by rw [Hsum.out, Hr1.out]; go_num, by rw [Hsum.out]; have := Hr1.out; omega, HB2⟩
        case measure => simp [intOf]; omega
    · have hjl : j = l.length := by omega
      rw [hjl, List.take_length] at hge
      rw [hjl, List.take_length]
      go_wp2_with fail
      go_ret
      exact ⟨⟨_, rfl, .inr ⟨hge, by omega⟩⟩, Hb.out⟩
set_option maxRecDepth 100000 in
theorem e_Tkn (D : Nat) (x : Tkn) (cs cs' : List Value) (F F' : List Nat) (w : World) (h : TknR D w x cs F) (h' : TknR D w x cs' F') :
    Calls Tryd.prog 72 #[.agg cs.toArray, .agg cs'.toArray] w fun en w' => en = .returned (.bool true) ∧ Below w.heap.size w w' := by
  obtain ⟨a0, a1, a2, a3, rfl⟩ := list4 ((TknR.good D).len h)
  obtain ⟨_, hk, h0, h1, h2, h3, rfl⟩ := h
  obtain rfl := Option.some.inj h0
  obtain rfl := Option.some.inj h1
  obtain rfl := Option.some.inj h2
  obtain rfl := Option.some.inj h3
  obtain ⟨b0, b1, b2, b3, rfl⟩ := list4 ((TknR.good D).len h')
  obtain ⟨_, phk, ph0, ph1, ph2, ph3, rfl⟩ := h'
  obtain rfl := Option.some.inj ph0
  obtain rfl := Option.some.inj ph1
  obtain rfl := Option.some.inj ph2
  obtain rfl := Option.some.inj ph3
  obtain ⟨C1, C2, hz0, hw0⟩ := boxes2 w [.int .i64 x.kind, .int .i64 x.n, .int .i64 x.off, .string x.text] [.int .i64 x.kind, .int .i64 x.n, .int .i64 x.off, .string x.text] 58 58
  show Calls _ _ #[.agg #[.int .i64 x.kind, .int .i64 x.n, .int .i64 x.off, .string x.text], .agg #[.int .i64 x.kind, .int .i64 x.n, .int .i64 x.off, .string x.text]] w _
  go_enter Tryd.func72, Tryd.ntmps72
  go_wp2_with fail
  go_ret
  exact ⟨rfl, hw0⟩
set_option maxRecDepth 100000 in
theorem es_Tkn (D : Nat) (l : List Tkn) (v v' : Value) (F F' : List Nat) (w : World) (hs : SlR 4 (TknR D) w l v F) (hs' : SlR 4 (TknR D) w l v' F') :
    Calls Tryd.prog 30 #[v, v'] w fun en w' => en = .returned (.bool true) ∧ Below w.heap.size w w' := by
  obtain ⟨A, cap, rfl, hlc, hm⟩ := hs.form
  obtain ⟨A', cap', rfl, hlc', hm'⟩ := hs'.form
  have HF := hide (hs.lt (TknR.good D))
  have HF' := hide (hs'.lt (TknR.good D))
  unfold maxLen at hm hm'
  have Hs := hide hs
  have Hs' := hide hs'
  clear hs hs'
  go_enter Tryd.func30, Tryd.ntmps30
  go_wp2_with fail
  go_loopw [5] (fun i wr => ∃ j : Nat, j ≤ l.length ∧ i = .int .i64 j ∧ Hid (Below w.heap.size w wr)) (fun i _ => l.length - (intOf i).toNat)
  case atStart => exact ⟨0, by omega, rfl, hide (Below.refl _ _)⟩
  case round =>
    obtain ⟨j, hj, rfl, Hb⟩ := hrel
    by_cases hlt : j < l.length
    · have hx : l[j]? = some l[j] := List.getElem?_eq_getElem hlt
      generalize l[j] = x at hx
      obtain ⟨b, off, cs, Fk, hA, _, hbF, hFk, hcl, hcat, hR⟩ := SlR.get (TknR.good D) (Hs.out.below (TknR.good D) Hb.out HF.out) hx
      subst hA
      obtain ⟨a0, a1, a2, a3, rfl⟩ := list4 hcl
      obtain ⟨b', off', cs', Fk', hA, _, hbF', hFk', hcl', hcat', hR'⟩ := SlR.get (TknR.good D) (Hs'.out.below (TknR.good D) Hb.out HF'.out) hx
      subst hA
      obtain ⟨b0, b1, b2, b3, rfl⟩ := list4 hcl'
      have hblt := Nat.lt_of_lt_of_le (HF.out b hbF) Hb.out.size
      have hblt' := Nat.lt_of_lt_of_le (HF'.out b' hbF') Hb.out.size
      have e0 : ∀ W : World, Below wr.heap.size wr W → W.cell? ⟨b, off + j * 4, none⟩ = some a0 := fun W h => (hcat.below h hblt) 0 _ rfl
      have e1 : ∀ W : World, Below wr.heap.size wr W → W.cell? ⟨b, off + j * 4 + 1, none⟩ = some a1 := fun W h => (hcat.below h hblt) 1 _ rfl
      have e2 : ∀ W : World, Below wr.heap.size wr W → W.cell? ⟨b, off + j * 4 + 2, none⟩ = some a2 := fun W h => (hcat.below h hblt) 2 _ rfl
      have e3 : ∀ W : World, Below wr.heap.size wr W → W.cell? ⟨b, off + j * 4 + 3, none⟩ = some a3 := fun W h => (hcat.below h hblt) 3 _ rfl
      have g0 : ∀ W : World, Below wr.heap.size wr W → W.cell? ⟨b', off' + j * 4, none⟩ = some b0 := fun W h => (hcat'.below h hblt') 0 _ rfl
      have g1 : ∀ W : World, Below wr.heap.size wr W → W.cell? ⟨b', off' + j * 4 + 1, none⟩ = some b1 := fun W h => (hcat'.below h hblt') 1 _ rfl
      have g2 : ∀ W : World, Below wr.heap.size wr W → W.cell? ⟨b', off' + j * 4 + 2, none⟩ = some b2 := fun W h => (hcat'.below h hblt') 2 _ rfl
      have g3 : ∀ W : World, Below wr.heap.size wr W → W.cell? ⟨b', off' + j * 4 + 3, none⟩ = some b3 := fun W h => (hcat'.below h hblt') 3 _ rfl
      have HR := hide hR
      have HR' := hide hR'
      have hj0 : (0 : Int) ≤ (j : Int) := by omega
      have hj1 : (j : Int) < (l.length : Int) := by omega
      have hBr : Below wr.heap.size wr wr := Below.refl _ _
      clear hx hR hR' hcat hcat' hFk hFk' hbF hbF' hcl hcl'
      go_wp2_with fail
      go_region_held3 (fun W => Below wr.heap.size wr W)
        (first | assumption | exact Below.drew (by assumption))
        ((go_at_call 72; refine Calls.mono (e_Tkn D x _ _ Fk Fk' _ ((TknR.good D).heap HR.out rfl) ((TknR.good D).heap HR'.out rfl)) ?_; rintro en w2 ⟨rfl, hb2⟩; have hB2 : Below wr.heap.size wr w2 := below_step (by (repeat (first | assumption | apply Below.drew))) (Nat.le_refl _) hb2; clear hb2))
      have HB2 : Hid (Below w.heap.size w w2) := hide (Hb.out.trans (hB2.mono Hb.out.size))
      clear hB2
      go_wp2_with fail
      go_roundw
      case rel => exact ⟨j + 1, by omega, by go_num, HB2⟩
      case measure => simp [intOf]; omega
    · go_wp2_with fail
      go_ret
      exact ⟨rfl, Hb.out⟩
set_option maxRecDepth 100000 in
theorem c_Tkn (D : Nat) (x : Tkn) (cs : List Value) (F : List Nat) (w : World) (h : TknR D w x cs F) :
    Calls Tryd.prog 69 #[.agg cs.toArray] w fun en w' => ∃ us F', en = .returned (.agg (List.toArray us)) ∧ TknR D w' x us F' ∧ Fresh w.heap.size w' F' ∧ Below w.heap.size w w' := by
  obtain ⟨c0, c1, c2, c3, rfl⟩ := list4 ((TknR.good D).len h)
  obtain ⟨_, hk, h0, h1, h2, h3, rfl⟩ := h
  obtain rfl := Option.some.inj h0
  obtain rfl := Option.some.inj h1
  obtain rfl := Option.some.inj h2
  obtain rfl := Option.some.inj h3
  show Calls _ _ #[.agg #[.int .i64 x.kind, .int .i64 x.n, .int .i64 x.off, .string x.text]] w _
  go_enter Tryd.func69, Tryd.ntmps69
  go_wp2_with fail
  exact bodyPost_ret (v := .agg #[.int .i64 x.kind, .int .i64 x.n, .int .i64 x.off, .string x.text]) (by simp [results, Tryd.results69, go_sem]) rfl ⟨[.int .i64 x.kind, .int .i64 x.n, .int .i64 x.off, .string x.text], [], rfl, ⟨rfl, hk, rfl, rfl, rfl, rfl, rfl⟩, Fresh.nil _ _, (((Below.refl _ _).alloc (Nat.le_refl _) _).alloc (by simp) _).alloc (by simp; omega) _⟩
set_option maxRecDepth 100000 in
theorem cs_Tkn (D : Nat) (l : List Tkn) (v : Value) (F : List Nat) (w : World) (hs : SlR 4 (TknR D) w l v F) (hl : l.length ≤ 1048576) (hbl : sumBy (bulkTkn D) l ≤ 1048576) :
    Calls Tryd.prog 28 #[v] w fun en w' => ∃ v' F', en = .returned v' ∧ SlR 4 (TknR D) w' l v' F' ∧ Fresh w.heap.size w' F' ∧ Below w.heap.size w w' := by
  obtain ⟨A, cap, rfl, hlc, hm⟩ := hs.form
  have HF := hide (hs.lt (TknR.good D))
  have Hs := hide hs
  have Hbl := hide (fun x (hx : x ∈ l) => Int.le_trans (sumBy_mem (f := bulkTkn D) (bulkTkn_nonneg D) hx) hbl)
  clear hs hbl hlc hm
  have hmk := fun W => run_make_rowN' (P := Tryd.prog) 50 58 (.agg #[.int .i64 0, .int .i64 0, .int .i64 0, .string ByteArray.empty]) 4 40 Tryd.underlying50 (by kernel_rfl) .i64 .i64 l.length (by omega) (by omega) W
  have hst := fun (w : World) (a : Addr) (v : Value) (m : Mode) (hv : v.oneCell' = true) => run_store Tryd.prog w a v m hv
  go_enter Tryd.func28, Tryd.ntmps28
  go_wp2_with fail
  go_loopw [4] (fun i wr => ∃ (j : Nat) (F' : List Nat), j ≤ l.length ∧ i = .int .i64 j ∧ Hid (ElR 4 (TknR D) wr w.heap.size 0 (l.take j) F') ∧ Hid (Fresh (w.heap.size + 1) wr F') ∧ Hid (∃ cs, wr.heap[w.heap.size]? = some (.cells cs 58 (0, 0)) ∧ cs.size = l.length * 4) ∧ Hid (Below w.heap.size w wr)) (fun i _ => l.length - (intOf i).toNat)
  case atStart => exact ⟨0, [], by omega, rfl, hide rfl, hide (Fresh.nil _ _), hide ⟨_, heap_alloc_new w _, by simp [madeCells]⟩, hide ((Below.refl _ _).alloc (Nat.le_refl _) _)⟩
  case round =>
    obtain ⟨j, F', hj, rfl, Hel, Hfr, Hbk, Hb⟩ := hrel
    by_cases hlt : j < l.length
    · have hx : l[j]? = some l[j] := List.getElem?_eq_getElem hlt
      generalize l[j] = x at hx
      have Hx := hide hx
      obtain ⟨b, off, cs, Fk, hA, _, hbF, hFk, hcl, hcat, hR⟩ := SlR.get (TknR.good D) (Hs.out.below (TknR.good D) Hb.out HF.out) hx
      subst hA
      obtain ⟨c0, c1, c2, c3, rfl⟩ := list4 hcl
      have e0 : wr.cell? ⟨b, off + j * 4, none⟩ = some c0 := hcat 0 _ rfl
      have e1 : wr.cell? ⟨b, off + j * 4 + 1, none⟩ = some c1 := hcat 1 _ rfl
      have e2 : wr.cell? ⟨b, off + j * 4 + 2, none⟩ = some c2 := hcat 2 _ rfl
      have e3 : wr.cell? ⟨b, off + j * 4 + 3, none⟩ = some c3 := hcat 3 _ rfl
      have hblt := Nat.lt_of_lt_of_le (HF.out b hbF) Hb.out.size
      have HR := hide hR
      have hbz := Hb.out.size
      clear hx hR hcat hFk hbF hcl
      go_wp2_with fail
      refine Calls.mono (c_Tkn D x _ Fk _ HR.out) ?_
      rintro en w2 ⟨us, F2, rfl, hR2, hf2, hb2⟩
      obtain ⟨u0, u1, u2, u3, rfl⟩ := list4 ((TknR.good D).len hR2)
      have ho := TknR.one hR2
      have o0 := ho u0 (by simp)
      have o1 := ho u1 (by simp)
      have o2 := ho u2 (by simp)
      have o3 := ho u3 (by simp)
      obtain ⟨cs, hcs, hcz⟩ := Hbk.out
      have hcs2 : w2.heap[w.heap.size]? = some (.cells cs 58 (0, 0)) := blk_below hcs hb2 (blk_lt hcs)
      have q0 := cell_at (i := j * 4) hcs2 (by omega)
      have q1 := cell_at (i := j * 4 + 1) hcs2 (by omega)
      have q2 := cell_at (i := j * 4 + 2) hcs2 (by omega)
      have q3 := cell_at (i := j * 4 + 3) hcs2 (by omega)
      have g0 := frozen_of_row w2 w.heap.size (j * 4) _ _ hcs2
      have g1 := frozen_of_row w2 w.heap.size (j * 4 + 1) _ _ hcs2
      have g2 := frozen_of_row w2 w.heap.size (j * 4 + 2) _ _ hcs2
      have g3 := frozen_of_row w2 w.heap.size (j * 4 + 3) _ _ hcs2
      have HB2 := hide hb2
      have HR2 := hide hR2
      have Hf2 := hide hf2
      have Hcs0 := hide hcs
      clear hb2 hR2 hf2 hcs hcs2 ho
      go_wp2_with fail
      have hst := copy_step (w := w) (TknR.good D) Hx.out Hel.out Hfr.out Hcs0.out hcz Hb.out HB2.out HR2.out Hf2.out rfl
      exact ⟨⟨j + 1, F' ++ F2, by omega, by go_num, hide hst.1, hide hst.2.1, hide hst.2.2.1, hide hst.2.2.2⟩, by simp [intOf]; omega⟩
    · have hjl : j = l.length := by omega
      subst hjl
      have Hel' : Hid (ElR 4 (TknR D) wr w.heap.size 0 l F') := by have := Hel.out; rw [List.take_length] at this; exact hide this
      go_wp2_with fail
      go_ret
      obtain ⟨cs, hcs, _⟩ := Hbk.out
      obtain ⟨G, hG, hGf⟩ := copy_done (w := w) (by unfold maxLen; omega) Hel'.out Hfr.out hcs
      exact ⟨_, G, rfl, hG, hGf, Hb.out⟩
end Go.Proofs.YtilibmialekpaaaDoor
