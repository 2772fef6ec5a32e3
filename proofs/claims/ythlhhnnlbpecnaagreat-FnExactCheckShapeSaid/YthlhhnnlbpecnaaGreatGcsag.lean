/- Several texts of one proof in one file: Grammars: how one lies in memory; sizes, copies, comparisons. Conditions: each theorem names its own. -/
import Derived.Test.YthlhhnnlbpecnaaGreatGcsae
import Derived.Test.YthlhhnnlbpecnaaGreatGcsaf

/- Grammars: how one lies in memory; sizes, copies, comparisons. Conditions: sizes up to 2^20. -/
namespace Go.Proofs.YthlhhnnlbpecnaaGreat
set_option linter.unusedSimpArgs false
set_option linter.unusedVariables false
set_option maxRecDepth 100000
open Go.RowKit Go.WideShapes
set_option linter.unusedVariables false

set_option maxRecDepth 100000 in
theorem zs_Sym (D : Nat) (l : List Sym) (v : Value) (F : List Nat) (w : World) (L : Int) (hs : SlR 2 (SymR D) w l v F) (h0 : 0 ≤ L) (h1 : L ≤ 1048576) :
    Calls Tryz.prog 9 #[v, .int .i64 L] w fun en w' => Sized (l.length + sumBy (bulkSym D) l) L en ∧ Below w.heap.size w w' := by
  obtain ⟨A, cap, rfl, hlc, hm⟩ := hs.form
  have HF := hide (hs.lt (SymR.good D))
  unfold maxLen at hm
  have Hs := hide hs
  have Hnn := hide (bulkSym_nonneg D)
  clear hs
  by_cases hn : L < l.length
  · go_enter Tryz.func9, Tryz.ntmps9
    go_wp2_with fail
    go_ret
    exact ⟨⟨-1, rfl, .inl rfl⟩, Below.refl _ _⟩
  go_enter Tryz.func9, Tryz.ntmps9
  go_wp2_with fail
  go_loopw [1, 5] (fun c i wr => ∃ j : Nat, j ≤ l.length ∧ i = .int .i64 j ∧ c = .int .i64 (L - l.length - sumBy (bulkSym D) (l.take j)) ∧ 0 ≤ L - l.length - sumBy (bulkSym D) (l.take j) ∧ Hid (Below w.heap.size w wr)) (fun _ i _ => l.length - (intOf i).toNat)
  case atStart => exact ⟨0, by omega, rfl, by simp [sumBy], by simp [sumBy]; omega, hide (Below.refl _ _)⟩
  case round =>
    obtain ⟨j, hj, rfl, rfl, hge, Hb⟩ := hrel
    have hpos := sumBy_nonneg Hnn.out (l.take j)
    by_cases hlt : j < l.length
    · have hx : l[j]? = some l[j] := List.getElem?_eq_getElem hlt
      generalize l[j] = x at hx
      have Hsum := hide (sumBy_take_succ (f := bulkSym D) hx)
      have hcx := Hnn.out x
      obtain ⟨b, off, cs, Fk, hA, _, hbF, hFk, hcl, hcat, hR⟩ := SlR.get (SymR.good D) (Hs.out.below (SymR.good D) Hb.out HF.out) hx
      subst hA
      obtain ⟨c0, c1, rfl⟩ := list2 hcl
      have e0 : wr.cell? ⟨b, off + j * 2, none⟩ = some c0 := hcat 0 _ rfl
      have e1 : wr.cell? ⟨b, off + j * 2 + 1, none⟩ = some c1 := hcat 1 _ rfl
      have hblt := Nat.lt_of_lt_of_le (HF.out b hbF) Hb.out.size
      have HR := hide hR
      clear hx hR hcat hFk hbF hcl
      go_wp2_with fail
      refine Calls.mono (z_Sym D x _ Fk _ (L - l.length - sumBy (bulkSym D) (l.take j)) HR.out (by omega) (by omega)) ?_
      rintro en w2 ⟨⟨r, rfl, hr⟩, hb2⟩
      have HB2 : Hid (Below w.heap.size w w2) := hide (Hb.out.trans (hb2.mono Hb.out.size))
      clear hb2
      rcases hr with rfl | ⟨hr0, hr1⟩
      · go_wp2_with fail
        go_ret
        exact ⟨⟨-1, rfl, .inl rfl⟩, HB2.out⟩
      · have Hr1 := hide hr1
        clear hr1
        go_wp2_with fail
        go_roundw
        case rel => exact ⟨j + 1, by omega, by go_num, by rw [Hsum.out, Hr1.out]; go_num, by rw [Hsum.out]; have := Hr1.out; omega, HB2⟩
        case measure => simp [intOf]; omega
    · have hjl : j = l.length := by omega
      rw [hjl, List.take_length] at hge
      rw [hjl, List.take_length]
      go_wp2_with fail
      go_ret
      exact ⟨⟨_, rfl, .inr ⟨hge, by omega⟩⟩, Hb.out⟩
set_option maxRecDepth 100000 in
theorem es_Sym (D : Nat) (l : List Sym) (v v' : Value) (F F' : List Nat) (w : World) (hs : SlR 2 (SymR D) w l v F) (hs' : SlR 2 (SymR D) w l v' F') :
    Calls Tryz.prog 24 #[v, v'] w fun en w' => en = .returned (.bool true) ∧ Below w.heap.size w w' := by
  obtain ⟨A, cap, rfl, hlc, hm⟩ := hs.form
  obtain ⟨A', cap', rfl, hlc', hm'⟩ := hs'.form
  have HF := hide (hs.lt (SymR.good D))
  have HF' := hide (hs'.lt (SymR.good D))
  unfold maxLen at hm hm'
  have Hs := hide hs
  have Hs' := hide hs'
  clear hs hs'
  go_enter Tryz.func24, Tryz.ntmps24
  go_wp2_with fail
  go_loopw [5] (fun i wr => ∃ j : Nat, j ≤ l.length ∧ i = .int .i64 j ∧ Hid (Below w.heap.size w wr)) (fun i _ => l.length - (intOf i).toNat)
  case atStart => exact ⟨0, by omega, rfl, hide (Below.refl _ _)⟩
  case round =>
    obtain ⟨j, hj, rfl, Hb⟩ := hrel
    by_cases hlt : j < l.length
    · have hx : l[j]? = some l[j] := List.getElem?_eq_getElem hlt
      generalize l[j] = x at hx
      obtain ⟨b, off, cs, Fk, hA, _, hbF, hFk, hcl, hcat, hR⟩ := SlR.get (SymR.good D) (Hs.out.below (SymR.good D) Hb.out HF.out) hx
      subst hA
      obtain ⟨a0, a1, rfl⟩ := list2 hcl
      obtain ⟨b', off', cs', Fk', hA, _, hbF', hFk', hcl', hcat', hR'⟩ := SlR.get (SymR.good D) (Hs'.out.below (SymR.good D) Hb.out HF'.out) hx
      subst hA
      obtain ⟨b0, b1, rfl⟩ := list2 hcl'
      have hblt := Nat.lt_of_lt_of_le (HF.out b hbF) Hb.out.size
      have hblt' := Nat.lt_of_lt_of_le (HF'.out b' hbF') Hb.out.size
      have e0 : ∀ W : World, Below wr.heap.size wr W → W.cell? ⟨b, off + j * 2, none⟩ = some a0 := fun W h => (hcat.below h hblt) 0 _ rfl
      have e1 : ∀ W : World, Below wr.heap.size wr W → W.cell? ⟨b, off + j * 2 + 1, none⟩ = some a1 := fun W h => (hcat.below h hblt) 1 _ rfl
      have g0 : ∀ W : World, Below wr.heap.size wr W → W.cell? ⟨b', off' + j * 2, none⟩ = some b0 := fun W h => (hcat'.below h hblt') 0 _ rfl
      have g1 : ∀ W : World, Below wr.heap.size wr W → W.cell? ⟨b', off' + j * 2 + 1, none⟩ = some b1 := fun W h => (hcat'.below h hblt') 1 _ rfl
      have HR := hide hR
      have HR' := hide hR'
      have hj0 : (0 : Int) ≤ (j : Int) := by omega
      have hj1 : (j : Int) < (l.length : Int) := by omega
      have hBr : Below wr.heap.size wr wr := Below.refl _ _
      clear hx hR hR' hcat hcat' hFk hFk' hbF hbF' hcl hcl'
      go_wp2_with fail
      go_region_held3 (fun W => Below wr.heap.size wr W)
        (first | assumption | exact Below.drew (by assumption))
        ((go_at_call 59; refine Calls.mono (e_Sym D x _ _ Fk Fk' _ ((SymR.good D).heap HR.out rfl) ((SymR.good D).heap HR'.out rfl)) ?_; rintro en w2 ⟨rfl, hb2⟩; have hB2 : Below wr.heap.size wr w2 := below_step (by (repeat (first | assumption | apply Below.drew))) (Nat.le_refl _) hb2; clear hb2))
      have HB2 : Hid (Below w.heap.size w w2) := hide (Hb.out.trans (hB2.mono Hb.out.size))
      clear hB2
      go_wp2_with fail
      go_roundw
      case rel => exact ⟨j + 1, by omega, by go_num, HB2⟩
      case measure => simp [intOf]; omega
    · go_wp2_with fail
      go_ret
      exact ⟨rfl, Hb.out⟩
set_option maxRecDepth 100000 in
theorem cs_Sym (D : Nat) (l : List Sym) (v : Value) (F : List Nat) (w : World) (hs : SlR 2 (SymR D) w l v F) (hl : l.length ≤ 1048576) (hbl : sumBy (bulkSym D) l ≤ 1048576) :
    Calls Tryz.prog 14 #[v] w fun en w' => ∃ v' F', en = .returned v' ∧ SlR 2 (SymR D) w' l v' F' ∧ Fresh w.heap.size w' F' ∧ Below w.heap.size w w' := by
  obtain ⟨A, cap, rfl, hlc, hm⟩ := hs.form
  have HF := hide (hs.lt (SymR.good D))
  have Hs := hide hs
  have Hbl := hide (fun x (hx : x ∈ l) => Int.le_trans (sumBy_mem (f := bulkSym D) (bulkSym_nonneg D) hx) hbl)
  clear hs hbl hlc hm
  have hmk := fun W => run_make_rowN' (P := Tryz.prog) 29 42 (.agg #[.string ByteArray.empty, .slice none 0 0]) 2 40 Tryz.underlying29 (by kernel_rfl) .i64 .i64 l.length (by omega) (by omega) W
  have hst := fun (w : World) (a : Addr) (v : Value) (m : Mode) (hv : v.oneCell' = true) => run_store Tryz.prog w a v m hv
  go_enter Tryz.func14, Tryz.ntmps14
  go_wp2_with fail
  go_loopw [4] (fun i wr => ∃ (j : Nat) (F' : List Nat), j ≤ l.length ∧ i = .int .i64 j ∧ Hid (ElR 2 (SymR D) wr w.heap.size 0 (l.take j) F') ∧ Hid (Fresh (w.heap.size + 1) wr F') ∧ Hid (∃ cs, wr.heap[w.heap.size]? = some (.cells cs 42 (0, 0)) ∧ cs.size = l.length * 2) ∧ Hid (Below w.heap.size w wr)) (fun i _ => l.length - (intOf i).toNat)
  case atStart => exact ⟨0, [], by omega, rfl, hide rfl, hide (Fresh.nil _ _), hide ⟨_, heap_alloc_new w _, by simp [madeCells]⟩, hide ((Below.refl _ _).alloc (Nat.le_refl _) _)⟩
  case round =>
    obtain ⟨j, F', hj, rfl, Hel, Hfr, Hbk, Hb⟩ := hrel
    by_cases hlt : j < l.length
    · have hx : l[j]? = some l[j] := List.getElem?_eq_getElem hlt
      generalize l[j] = x at hx
      have Hx := hide hx
      obtain ⟨b, off, cs, Fk, hA, _, hbF, hFk, hcl, hcat, hR⟩ := SlR.get (SymR.good D) (Hs.out.below (SymR.good D) Hb.out HF.out) hx
      subst hA
      obtain ⟨c0, c1, rfl⟩ := list2 hcl
      have e0 : wr.cell? ⟨b, off + j * 2, none⟩ = some c0 := hcat 0 _ rfl
      have e1 : wr.cell? ⟨b, off + j * 2 + 1, none⟩ = some c1 := hcat 1 _ rfl
      have hblt := Nat.lt_of_lt_of_le (HF.out b hbF) Hb.out.size
      have HR := hide hR
      have hbz := Hb.out.size
      clear hx hR hcat hFk hbF hcl
      go_wp2_with fail
      refine Calls.mono (c_Sym D x _ Fk _ HR.out (Hbl.out x (List.mem_of_getElem? Hx.out))) ?_
      rintro en w2 ⟨us, F2, rfl, hR2, hf2, hb2⟩
      obtain ⟨u0, u1, rfl⟩ := list2 ((SymR.good D).len hR2)
      have ho := SymR.one hR2
      have o0 := ho u0 (by simp)
      have o1 := ho u1 (by simp)
      obtain ⟨cs, hcs, hcz⟩ := Hbk.out
      have hcs2 : w2.heap[w.heap.size]? = some (.cells cs 42 (0, 0)) := blk_below hcs hb2 (blk_lt hcs)
      have q0 := cell_at (i := j * 2) hcs2 (by omega)
      have q1 := cell_at (i := j * 2 + 1) hcs2 (by omega)
      have g0 := frozen_of_row w2 w.heap.size (j * 2) _ _ hcs2
      have g1 := frozen_of_row w2 w.heap.size (j * 2 + 1) _ _ hcs2
      have HB2 := hide hb2
      have HR2 := hide hR2
      have Hf2 := hide hf2
      have Hcs0 := hide hcs
      clear hb2 hR2 hf2 hcs hcs2 ho
      go_wp2_with fail
      have hst := copy_step (w := w) (SymR.good D) Hx.out Hel.out Hfr.out Hcs0.out hcz Hb.out HB2.out HR2.out Hf2.out rfl
      exact ⟨⟨j + 1, F' ++ F2, by omega, by go_num, hide hst.1, hide hst.2.1, hide hst.2.2.1, hide hst.2.2.2⟩, by simp [intOf]; omega⟩
    · have hjl : j = l.length := by omega
      subst hjl
      have Hel' : Hid (ElR 2 (SymR D) wr w.heap.size 0 l F') := by have := Hel.out; rw [List.take_length] at this; exact hide this
      go_wp2_with fail
      go_ret
      obtain ⟨cs, hcs, _⟩ := Hbk.out
      obtain ⟨G, hG, hGf⟩ := copy_done (w := w) (by unfold maxLen; omega) Hel'.out Hfr.out hcs
      exact ⟨_, G, rfl, hG, hGf, Hb.out⟩
set_option maxRecDepth 100000 in
theorem zs_Rul (D : Nat) (l : List Rul) (v : Value) (F : List Nat) (w : World) (L : Int) (hs : SlR 6 (RulR D) w l v F) (h0 : 0 ≤ L) (h1 : L ≤ 1048576) :
    Calls Tryz.prog 10 #[v, .int .i64 L] w fun en w' => Sized (l.length + sumBy (bulkRul D) l) L en ∧ Below w.heap.size w w' := by
  obtain ⟨A, cap, rfl, hlc, hm⟩ := hs.form
  have HF := hide (hs.lt (RulR.good D))
  unfold maxLen at hm
  have Hs := hide hs
  have Hnn := hide (bulkRul_nonneg D)
  clear hs
  by_cases hn : L < l.length
  · go_enter Tryz.func10, Tryz.ntmps10
    go_wp2_with fail
    go_ret
    exact ⟨⟨-1, rfl, .inl rfl⟩, Below.refl _ _⟩
  go_enter Tryz.func10, Tryz.ntmps10
  go_wp2_with fail
  go_loopw [1, 5] (fun c i wr => ∃ j : Nat, j ≤ l.length ∧ i = .int .i64 j ∧ c = .int .i64 (L - l.length - sumBy (bulkRul D) (l.take j)) ∧ 0 ≤ L - l.length - sumBy (bulkRul D) (l.take j) ∧ Hid (Below w.heap.size w wr)) (fun _ i _ => l.length - (intOf i).toNat)
  case atStart => exact ⟨0, by omega, rfl, by simp [sumBy], by simp [sumBy]; omega, hide (Below.refl _ _)⟩
  case round =>
    obtain ⟨j, hj, rfl, rfl, hge, Hb⟩ := hrel
    have hpos := sumBy_nonneg Hnn.out (l.take j)
    by_cases hlt : j < l.length
    · have hx : l[j]? = some l[j] := List.getElem?_eq_getElem hlt
      generalize l[j] = x at hx
      have Hsum := hide (sumBy_take_succ (f := bulkRul D) hx)
      have hcx := Hnn.out x
      obtain ⟨b, off, cs, Fk, hA, _, hbF, hFk, hcl, hcat, hR⟩ := SlR.get (RulR.good D) (Hs.out.below (RulR.good D) Hb.out HF.out) hx
      subst hA
      obtain ⟨c0, c1, c2, c3, c4, c5, rfl⟩ := list_6 hcl
      have e0 : wr.cell? ⟨b, off + j * 6, none⟩ = some c0 := hcat 0 _ rfl
      have e1 : wr.cell? ⟨b, off + j * 6 + 1, none⟩ = some c1 := hcat 1 _ rfl
      have e2 : wr.cell? ⟨b, off + j * 6 + 2, none⟩ = some c2 := hcat 2 _ rfl
      have e3 : wr.cell? ⟨b, off + j * 6 + 3, none⟩ = some c3 := hcat 3 _ rfl
      have e4 : wr.cell? ⟨b, off + j * 6 + 4, none⟩ = some c4 := hcat 4 _ rfl
      have e5 : wr.cell? ⟨b, off + j * 6 + 5, none⟩ = some c5 := hcat 5 _ rfl
      have hblt := Nat.lt_of_lt_of_le (HF.out b hbF) Hb.out.size
      have HR := hide hR
      clear hx hR hcat hFk hbF hcl
      go_wp2_with fail
      refine Calls.mono (z_Rul D x _ Fk _ (L - l.length - sumBy (bulkRul D) (l.take j)) HR.out (by omega) (by omega)) ?_
      rintro en w2 ⟨⟨r, rfl, hr⟩, hb2⟩
      have HB2 : Hid (Below w.heap.size w w2) := hide (Hb.out.trans (hb2.mono Hb.out.size))
      clear hb2
      rcases hr with rfl | ⟨hr0, hr1⟩
      · go_wp2_with fail
        go_ret
        exact ⟨⟨-1, rfl, .inl rfl⟩, HB2.out⟩
      · have Hr1 := hide hr1
        clear hr1
        go_wp2_with fail
        go_roundw
        case rel => exact ⟨j + 1, by omega, by go_num, by rw [Hsum.out, Hr1.out]; go_num, by rw [Hsum.out]; have := Hr1.out; omega, HB2⟩
        case measure => simp [intOf]; omega
    · have hjl : j = l.length := by omega
      rw [hjl, List.take_length] at hge
      rw [hjl, List.take_length]
      go_wp2_with fail
      go_ret
      exact ⟨⟨_, rfl, .inr ⟨hge, by omega⟩⟩, Hb.out⟩
set_option maxRecDepth 100000 in
theorem es_Rul (D : Nat) (l : List Rul) (v v' : Value) (F F' : List Nat) (w : World) (hs : SlR 6 (RulR D) w l v F) (hs' : SlR 6 (RulR D) w l v' F') :
    Calls Tryz.prog 25 #[v, v'] w fun en w' => en = .returned (.bool true) ∧ Below w.heap.size w w' := by
  obtain ⟨A, cap, rfl, hlc, hm⟩ := hs.form
  obtain ⟨A', cap', rfl, hlc', hm'⟩ := hs'.form
  have HF := hide (hs.lt (RulR.good D))
  have HF' := hide (hs'.lt (RulR.good D))
  unfold maxLen at hm hm'
  have Hs := hide hs
  have Hs' := hide hs'
  clear hs hs'
  go_enter Tryz.func25, Tryz.ntmps25
  go_wp2_with fail
  go_loopw [5] (fun i wr => ∃ j : Nat, j ≤ l.length ∧ i = .int .i64 j ∧ Hid (Below w.heap.size w wr)) (fun i _ => l.length - (intOf i).toNat)
  case atStart => exact ⟨0, by omega, rfl, hide (Below.refl _ _)⟩
  case round =>
    obtain ⟨j, hj, rfl, Hb⟩ := hrel
    by_cases hlt : j < l.length
    · have hx : l[j]? = some l[j] := List.getElem?_eq_getElem hlt
      generalize l[j] = x at hx
      obtain ⟨b, off, cs, Fk, hA, _, hbF, hFk, hcl, hcat, hR⟩ := SlR.get (RulR.good D) (Hs.out.below (RulR.good D) Hb.out HF.out) hx
      subst hA
      obtain ⟨a0, a1, a2, a3, a4, a5, rfl⟩ := list_6 hcl
      obtain ⟨b', off', cs', Fk', hA, _, hbF', hFk', hcl', hcat', hR'⟩ := SlR.get (RulR.good D) (Hs'.out.below (RulR.good D) Hb.out HF'.out) hx
      subst hA
      obtain ⟨b0, b1, b2, b3, b4, b5, rfl⟩ := list_6 hcl'
      have hblt := Nat.lt_of_lt_of_le (HF.out b hbF) Hb.out.size
      have hblt' := Nat.lt_of_lt_of_le (HF'.out b' hbF') Hb.out.size
      have e0 : ∀ W : World, Below wr.heap.size wr W → W.cell? ⟨b, off + j * 6, none⟩ = some a0 := fun W h => (hcat.below h hblt) 0 _ rfl
      have e1 : ∀ W : World, Below wr.heap.size wr W → W.cell? ⟨b, off + j * 6 + 1, none⟩ = some a1 := fun W h => (hcat.below h hblt) 1 _ rfl
      have e2 : ∀ W : World, Below wr.heap.size wr W → W.cell? ⟨b, off + j * 6 + 2, none⟩ = some a2 := fun W h => (hcat.below h hblt) 2 _ rfl
      have e3 : ∀ W : World, Below wr.heap.size wr W → W.cell? ⟨b, off + j * 6 + 3, none⟩ = some a3 := fun W h => (hcat.below h hblt) 3 _ rfl
      have e4 : ∀ W : World, Below wr.heap.size wr W → W.cell? ⟨b, off + j * 6 + 4, none⟩ = some a4 := fun W h => (hcat.below h hblt) 4 _ rfl
      have e5 : ∀ W : World, Below wr.heap.size wr W → W.cell? ⟨b, off + j * 6 + 5, none⟩ = some a5 := fun W h => (hcat.below h hblt) 5 _ rfl
      have g0 : ∀ W : World, Below wr.heap.size wr W → W.cell? ⟨b', off' + j * 6, none⟩ = some b0 := fun W h => (hcat'.below h hblt') 0 _ rfl
      have g1 : ∀ W : World, Below wr.heap.size wr W → W.cell? ⟨b', off' + j * 6 + 1, none⟩ = some b1 := fun W h => (hcat'.below h hblt') 1 _ rfl
      have g2 : ∀ W : World, Below wr.heap.size wr W → W.cell? ⟨b', off' + j * 6 + 2, none⟩ = some b2 := fun W h => (hcat'.below h hblt') 2 _ rfl
      have g3 : ∀ W : World, Below wr.heap.size wr W → W.cell? ⟨b', off' + j * 6 + 3, none⟩ = some b3 := fun W h => (hcat'.below h hblt') 3 _ rfl
      have g4 : ∀ W : World, Below wr.heap.size wr W → W.cell? ⟨b', off' + j * 6 + 4, none⟩ = some b4 := fun W h => (hcat'.below h hblt') 4 _ rfl
      have g5 : ∀ W : World, Below wr.heap.size wr W → W.cell? ⟨b', off' + j * 6 + 5, none⟩ = some b5 := fun W h => (hcat'.below h hblt') 5 _ rfl
      have HR := hide hR
      have HR' := hide hR'
      have hj0 : (0 : Int) ≤ (j : Int) := by omega
      have hj1 : (j : Int) < (l.length : Int) := by omega
      have hBr : Below wr.heap.size wr wr := Below.refl _ _
      clear hx hR hR' hcat hcat' hFk hFk' hbF hbF' hcl hcl'
      go_wp2_with fail
      go_region_held3 (fun W => Below wr.heap.size wr W)
        (first | assumption | exact Below.drew (by assumption))
        ((go_at_call 60; refine Calls.mono (e_Rul D x _ _ Fk Fk' _ ((RulR.good D).heap HR.out rfl) ((RulR.good D).heap HR'.out rfl)) ?_; rintro en w2 ⟨rfl, hb2⟩; have hB2 : Below wr.heap.size wr w2 := below_step (by (repeat (first | assumption | apply Below.drew))) (Nat.le_refl _) hb2; clear hb2))
      have HB2 : Hid (Below w.heap.size w w2) := hide (Hb.out.trans (hB2.mono Hb.out.size))
      clear hB2
      go_wp2_with fail
      go_roundw
      case rel => exact ⟨j + 1, by omega, by go_num, HB2⟩
      case measure => simp [intOf]; omega
    · go_wp2_with fail
      go_ret
      exact ⟨rfl, Hb.out⟩
set_option maxRecDepth 100000 in
theorem cs_Rul (D : Nat) (l : List Rul) (v : Value) (F : List Nat) (w : World) (hs : SlR 6 (RulR D) w l v F) (hl : l.length ≤ 1048576) (hbl : sumBy (bulkRul D) l ≤ 1048576) :
    Calls Tryz.prog 15 #[v] w fun en w' => ∃ v' F', en = .returned v' ∧ SlR 6 (RulR D) w' l v' F' ∧ Fresh w.heap.size w' F' ∧ Below w.heap.size w w' := by
  obtain ⟨A, cap, rfl, hlc, hm⟩ := hs.form
  have HF := hide (hs.lt (RulR.good D))
  have Hs := hide hs
  have Hbl := hide (fun x (hx : x ∈ l) => Int.le_trans (sumBy_mem (f := bulkRul D) (bulkRul_nonneg D) hx) hbl)
  clear hs hbl hlc hm
  have hmk := fun W => run_make_rowN' (P := Tryz.prog) 30 50 (.agg #[.string ByteArray.empty, .string ByteArray.empty, .slice none 0 0, .bool false, .slice none 0 0, .slice none 0 0]) 6 112 Tryz.underlying30 (by kernel_rfl) .i64 .i64 l.length (by omega) (by omega) W
  have hst := fun (w : World) (a : Addr) (v : Value) (m : Mode) (hv : v.oneCell' = true) => run_store Tryz.prog w a v m hv
  go_enter Tryz.func15, Tryz.ntmps15
  go_wp2_with fail
  go_loopw [4] (fun i wr => ∃ (j : Nat) (F' : List Nat), j ≤ l.length ∧ i = .int .i64 j ∧ Hid (ElR 6 (RulR D) wr w.heap.size 0 (l.take j) F') ∧ Hid (Fresh (w.heap.size + 1) wr F') ∧ Hid (∃ cs, wr.heap[w.heap.size]? = some (.cells cs 50 (0, 0)) ∧ cs.size = l.length * 6) ∧ Hid (Below w.heap.size w wr)) (fun i _ => l.length - (intOf i).toNat)
  case atStart => exact ⟨0, [], by omega, rfl, hide rfl, hide (Fresh.nil _ _), hide ⟨_, heap_alloc_new w _, by simp [madeCells]⟩, hide ((Below.refl _ _).alloc (Nat.le_refl _) _)⟩
  case round =>
    obtain ⟨j, F', hj, rfl, Hel, Hfr, Hbk, Hb⟩ := hrel
    by_cases hlt : j < l.length
    · have hx : l[j]? = some l[j] := List.getElem?_eq_getElem hlt
      generalize l[j] = x at hx
      have Hx := hide hx
      obtain ⟨b, off, cs, Fk, hA, _, hbF, hFk, hcl, hcat, hR⟩ := SlR.get (RulR.good D) (Hs.out.below (RulR.good D) Hb.out HF.out) hx
      subst hA
      obtain ⟨c0, c1, c2, c3, c4, c5, rfl⟩ := list_6 hcl
      have e0 : wr.cell? ⟨b, off + j * 6, none⟩ = some c0 := hcat 0 _ rfl
      have e1 : wr.cell? ⟨b, off + j * 6 + 1, none⟩ = some c1 := hcat 1 _ rfl
      have e2 : wr.cell? ⟨b, off + j * 6 + 2, none⟩ = some c2 := hcat 2 _ rfl
      have e3 : wr.cell? ⟨b, off + j * 6 + 3, none⟩ = some c3 := hcat 3 _ rfl
      have e4 : wr.cell? ⟨b, off + j * 6 + 4, none⟩ = some c4 := hcat 4 _ rfl
      have e5 : wr.cell? ⟨b, off + j * 6 + 5, none⟩ = some c5 := hcat 5 _ rfl
      have hblt := Nat.lt_of_lt_of_le (HF.out b hbF) Hb.out.size
      have HR := hide hR
      have hbz := Hb.out.size
      clear hx hR hcat hFk hbF hcl
      go_wp2_with fail
      refine Calls.mono (c_Rul D x _ Fk _ HR.out (Hbl.out x (List.mem_of_getElem? Hx.out))) ?_
      rintro en w2 ⟨us, F2, rfl, hR2, hf2, hb2⟩
      obtain ⟨u0, u1, u2, u3, u4, u5, rfl⟩ := list_6 ((RulR.good D).len hR2)
      have ho := RulR.one hR2
      have o0 := ho u0 (by simp)
      have o1 := ho u1 (by simp)
      have o2 := ho u2 (by simp)
      have o3 := ho u3 (by simp)
      have o4 := ho u4 (by simp)
      have o5 := ho u5 (by simp)
      obtain ⟨cs, hcs, hcz⟩ := Hbk.out
      have hcs2 : w2.heap[w.heap.size]? = some (.cells cs 50 (0, 0)) := blk_below hcs hb2 (blk_lt hcs)
      have q0 := cell_at (i := j * 6) hcs2 (by omega)
      have q1 := cell_at (i := j * 6 + 1) hcs2 (by omega)
      have q2 := cell_at (i := j * 6 + 2) hcs2 (by omega)
      have q3 := cell_at (i := j * 6 + 3) hcs2 (by omega)
      have q4 := cell_at (i := j * 6 + 4) hcs2 (by omega)
      have q5 := cell_at (i := j * 6 + 5) hcs2 (by omega)
      have g0 := frozen_of_row w2 w.heap.size (j * 6) _ _ hcs2
      have g1 := frozen_of_row w2 w.heap.size (j * 6 + 1) _ _ hcs2
      have g2 := frozen_of_row w2 w.heap.size (j * 6 + 2) _ _ hcs2
      have g3 := frozen_of_row w2 w.heap.size (j * 6 + 3) _ _ hcs2
      have g4 := frozen_of_row w2 w.heap.size (j * 6 + 4) _ _ hcs2
      have g5 := frozen_of_row w2 w.heap.size (j * 6 + 5) _ _ hcs2
      have HB2 := hide hb2
      have HR2 := hide hR2
      have Hf2 := hide hf2
      have Hcs0 := hide hcs
      clear hb2 hR2 hf2 hcs hcs2 ho
      go_wp2_with fail
      have hst := copy_step (w := w) (RulR.good D) Hx.out Hel.out Hfr.out Hcs0.out hcz Hb.out HB2.out HR2.out Hf2.out rfl
      exact ⟨⟨j + 1, F' ++ F2, by omega, by go_num, hide hst.1, hide hst.2.1, hide hst.2.2.1, hide hst.2.2.2⟩, by simp [intOf]; omega⟩
    · have hjl : j = l.length := by omega
      subst hjl
      have Hel' : Hid (ElR 6 (RulR D) wr w.heap.size 0 l F') := by have := Hel.out; rw [List.take_length] at this; exact hide this
      go_wp2_with fail
      go_ret
      obtain ⟨cs, hcs, _⟩ := Hbk.out
      obtain ⟨G, hG, hGf⟩ := copy_done (w := w) (by unfold maxLen; omega) Hel'.out Hfr.out hcs
      exact ⟨_, G, rfl, hG, hGf, Hb.out⟩
structure Grm where
  symbols : List Sym
  rules : List Rul
def GrmR (D : Nat) : CR Grm := fun w x cs F => ∃ (v0 : Value) (F0 : List Nat) (v1 : Value) (F1 : List Nat), cs.length = 2 ∧ (cs[0]? = some v0 ∧ SlR 2 (SymR D) w x.symbols v0 F0) ∧ (cs[1]? = some v1 ∧ SlR 6 (RulR D) w x.rules v1 F1) ∧ F = F0 ++ (F1)
theorem GrmR.good (D : Nat) : Good 2 (GrmR D) where
  len := fun {w x cs F} h => by
    obtain ⟨v0, F0, v1, F1, hl, ⟨h0, g0⟩, ⟨h1, g1⟩, rfl⟩ := h
    exact hl
  frame := fun {w w' x cs F} h he hz => by
    obtain ⟨v0, F0, v1, F1, hl, ⟨h0, g0⟩, ⟨h1, g1⟩, rfl⟩ := h
    exact ⟨v0, F0, v1, F1, hl, ⟨h0, g0.frame (SymR.good D) (fun k hk' => he k (by simp only [List.mem_append]; simp [hk'])) hz⟩, ⟨h1, g1.frame (RulR.good D) (fun k hk' => he k (by simp only [List.mem_append]; simp [hk'])) hz⟩, rfl⟩
  lt := fun {w x cs F} h b hb => by
    obtain ⟨v0, F0, v1, F1, hl, ⟨h0, g0⟩, ⟨h1, g1⟩, rfl⟩ := h
    rcases List.mem_append.1 hb with hb | hb
    · exact g0.lt (SymR.good D) b hb
    · exact g1.lt (RulR.good D) b hb
theorem GrmR.up {D : Nat} {w : World} {x : Grm} {cs : List Value} {F : List Nat} (h : GrmR D w x cs F) (D' : Nat) (hd : D ≤ D') : GrmR D' w x cs F := by
  obtain ⟨v0, F0, v1, F1, hl, ⟨h0, g0⟩, ⟨h1, g1⟩, rfl⟩ := h
  exact ⟨v0, F0, v1, F1, hl, ⟨h0, g0.mono fun _ _ _ q => SymR.up q _ hd⟩, ⟨h1, g1.mono fun _ _ _ q => RulR.up q _ hd⟩, rfl⟩
theorem GrmR.one {D : Nat} {w : World} {x : Grm} {cs : List Value} {F : List Nat} (h : GrmR D w x cs F) : ∀ v ∈ cs, v.oneCell' = true := by
  obtain ⟨c0, c1, rfl⟩ := list2 ((GrmR.good D).len h)
  obtain ⟨v0, F0, v1, F1, hl, ⟨h0, g0⟩, ⟨h1, g1⟩, rfl⟩ := h
  intro v hv
  simp only [List.mem_cons, List.not_mem_nil, or_false] at hv
  rcases hv with rfl | rfl
  · obtain ⟨A, cap, hv, _, _⟩ := g0.form
    obtain rfl := Option.some.inj h0
    rw [hv]
    rfl
  · obtain ⟨A, cap, hv, _, _⟩ := g1.form
    obtain rfl := Option.some.inj h1
    rw [hv]
    rfl
def bulkGrm (D : Nat) (x : Grm) : Int := (x.symbols.length + sumBy (bulkSym D) x.symbols) + (x.rules.length + sumBy (bulkRul D) x.rules)
theorem bulkGrm_nonneg (D : Nat) (x : Grm) : 0 ≤ bulkGrm D x := by unfold bulkGrm; have := sumBy_nonneg (bulkSym_nonneg D) x.symbols; have := sumBy_nonneg (bulkRul_nonneg D) x.rules; omega
theorem cells_Grm {H : Type} {enc : TypeId × Value → H} {w : World} {base : Nat} {sp : Nat → Bool} {held : Bool} (fuel : Nat) {cs : List Value} {x : DataW H × List MemPlace}
    (h : DataW.trod enc Tryz.prog w base sp held fuel 25 cs = some x) : ∃ y F, GrmR fuel w y cs F := by
  have ht := Tryz.underlying25
  have hl := (trod_len ht h).trans (show Tryz.prog.cellsOf 25 = 2 by kernel_rfl)
  obtain ⟨c0, c1, rfl⟩ := list2 hl
  obtain ⟨n0, y0, hn0, k0⟩ := trod_field 0 _ ht h rfl
  have k0 : DataW.trod enc Tryz.prog w base sp held n0 22 (([c0, c1].drop 0).take (Tryz.prog.cellsOf 22)) = some y0 := k0
  rw [show Tryz.prog.cellsOf 22 = 1 by kernel_rfl] at k0
  obtain ⟨z0, v0, G0, b0, r0⟩ := open_SlR (n := 2) Tryz.underlying22 (by kernel_rfl) (by omega) (SymR n0) k0 (fun m cs y hm hy => by
      obtain ⟨e, F, he⟩ := cells_Sym m hy
      exact ⟨e, F, he.up n0 (by omega)⟩)
  obtain ⟨n1, y1, hn1, k1⟩ := trod_field 1 _ ht h rfl
  have k1 : DataW.trod enc Tryz.prog w base sp held n1 23 (([c0, c1].drop 1).take (Tryz.prog.cellsOf 23)) = some y1 := k1
  rw [show Tryz.prog.cellsOf 23 = 1 by kernel_rfl] at k1
  obtain ⟨z1, v1, G1, b1, r1⟩ := open_SlR (n := 6) Tryz.underlying23 (by kernel_rfl) (by omega) (RulR n1) k1 (fun m cs y hm hy => by
      obtain ⟨e, F, he⟩ := cells_Rul m hy
      exact ⟨e, F, he.up n1 (by omega)⟩)
  simp at b0 b1
  subst b0 b1
  exact ⟨⟨z0, z1⟩, _, _, G0, _, G1, rfl, ⟨rfl, r0.mono fun x cs F (hx : SymR n0 w x cs F) => hx.up fuel (by omega)⟩, ⟨rfl, r1.mono fun x cs F (hx : RulR n1 w x cs F) => hx.up fuel (by omega)⟩, rfl⟩
set_option maxRecDepth 100000 in
theorem open_Grm {H : Type} {enc : TypeId × Value → H} {w : World} {C base : Nat} {sp : Nat → Bool} {held : Bool} {v : Value} {d : DataW H} {p : List MemPlace} (hv : Value.okWide Tryz.prog w .any C 25 v)
    (h : DataW.Trod enc Tryz.prog w base sp held 25 v d p) : ∃ (D : Nat) (y : Grm) (cs : List Value) (F : List Nat), v = .agg cs.toArray ∧ GrmR D w y cs F := by
  obtain ⟨cs, fuel, x, rfl, hf⟩ := okWide_cells Tryz.underlying25 hv h
  obtain ⟨y, F, he⟩ := cells_Grm fuel hf
  exact ⟨fuel, y, _, F, rfl, he⟩
set_option maxRecDepth 100000 in
theorem z_Grm (D : Nat) (x : Grm) (cs : List Value) (F : List Nat) (w : World) (L : Int) (h : GrmR D w x cs F) (h0 : 0 ≤ L) (h1 : L ≤ 1048576) :
    Calls Tryz.prog 4 #[.agg cs.toArray, .int .i64 L] w fun en w' => Sized (bulkGrm D x) L en ∧ Below w.heap.size w w' := by
  obtain ⟨c0, c1, rfl⟩ := list2 ((GrmR.good D).len h)
  obtain ⟨v0, F0, v1, F1, _, ⟨h0, g0⟩, ⟨h1, g1⟩, rfl⟩ := h
  obtain rfl := Option.some.inj h0
  obtain rfl := Option.some.inj h1
  have HF0 := hide (g0.lt (SymR.good D))
  have HX0 : Hid (∀ W : World, Below w.heap.size w W → SlR 2 (SymR D) W x.symbols c0 F0) := hide fun W hW => g0.below (SymR.good D) hW HF0.out
  clear g0
  have HF1 := hide (g1.lt (RulR.good D))
  have HX1 : Hid (∀ W : World, Below w.heap.size w W → SlR 6 (RulR D) W x.rules c1 F1) := hide fun W hW => g1.below (RulR.good D) hW HF1.out
  clear g1
  obtain ⟨C, hz0, hw0⟩ := boxes1 w [c0, c1] 25
  show Calls _ _ #[.agg #[c0, c1], .int .i64 L] w _
  go_enter Tryz.func4, Tryz.ntmps4
  go_wp2_with fail
  generalize w.alloc (Obj.cells #[c0, c1] 25) = W0 at C hz0 hw0 ⊢
  have hn0 : (w.heap.size + 1) ≤ W0.heap.size := by omega
  have Hw : Hid (∀ W : World, Below (w.heap.size + 1) W0 W → Below w.heap.size w W) := hide fun W h => hw0.trans (h.mono (by omega))
  have hB0 : Below (w.heap.size + 1) W0 W0 := Below.refl _ _
  have e0 := cell_rule C (n := (w.heap.size + 1)) (by omega) 0 (v := c0) rfl
  have e1 := cell_rule C (n := (w.heap.size + 1)) (by omega) 1 (v := c1) rfl
  clear C hz0 hw0
  refine Calls.mono (zs_Sym D x.symbols _ F0 _ (L) (HX0.out _ (Hw.out _ hB0)) (by omega) (by omega)) ?_
  rintro en W1 ⟨⟨r0, rfl, hr⟩, hb⟩
  have hB1 : Below (w.heap.size + 1) W0 W1 := below_step hB0 hn0 hb
  clear hb
  rcases hr with rfl | ⟨hr0, hq0⟩
  · go_wp2_with fail
    go_ret
    exact ⟨⟨-1, rfl, .inl rfl⟩, Hw.out _ hB1⟩
  have hn0 := sumBy_nonneg (bulkSym_nonneg D) x.symbols
  have hl0 : r0 ≤ 1048576 := by omega
  have Hq0 := hide hq0
  clear hq0 hn0
  go_wp2_with fail
  refine Calls.mono (zs_Rul D x.rules _ F1 _ (r0) (HX1.out _ (Hw.out _ hB1)) (by omega) (by omega)) ?_
  rintro en W2 ⟨⟨r1, rfl, hr⟩, hb⟩
  have hB2 : Below (w.heap.size + 1) W0 W2 := below_step hB1 hn0 hb
  clear hb
  rcases hr with rfl | ⟨hr1, hq1⟩
  · go_wp2_with fail
    go_ret
    exact ⟨⟨-1, rfl, .inl rfl⟩, Hw.out _ hB2⟩
  have hn1 := sumBy_nonneg (bulkRul_nonneg D) x.rules
  have hl1 : r1 ≤ 1048576 := by omega
  have Hq1 := hide hq1
  clear hq1 hn1
  go_wp2_with fail
  go_ret
  exact ⟨⟨_, rfl, .inr ⟨by omega, by have := Hq0.out; have := Hq1.out; unfold bulkGrm; omega⟩⟩, Hw.out _ hB2⟩
set_option maxRecDepth 100000 in
theorem e_Grm (D : Nat) (x : Grm) (cs cs' : List Value) (F F' : List Nat) (w : World) (h : GrmR D w x cs F) (h' : GrmR D w x cs' F') :
    Calls Tryz.prog 8 #[.agg cs.toArray, .agg cs'.toArray] w fun en w' => en = .returned (.bool true) ∧ Below w.heap.size w w' := by
  obtain ⟨a0, a1, rfl⟩ := list2 ((GrmR.good D).len h)
  obtain ⟨v0, F0, v1, F1, _, ⟨h0, g0⟩, ⟨h1, g1⟩, rfl⟩ := h
  obtain rfl := Option.some.inj h0
  obtain rfl := Option.some.inj h1
  obtain ⟨b0, b1, rfl⟩ := list2 ((GrmR.good D).len h')
  obtain ⟨pv0, pF0, pv1, pF1, _, ⟨ph0, pg0⟩, ⟨ph1, pg1⟩, rfl⟩ := h'
  obtain rfl := Option.some.inj ph0
  obtain rfl := Option.some.inj ph1
  have HF0 := hide (g0.lt (SymR.good D))
  have HXF0 : Hid (∀ W : World, Below w.heap.size w W → SlR 2 (SymR D) W x.symbols a0 F0) := hide fun W hW => g0.below (SymR.good D) hW HF0.out
  clear g0
  have HF1 := hide (g1.lt (RulR.good D))
  have HXF1 : Hid (∀ W : World, Below w.heap.size w W → SlR 6 (RulR D) W x.rules a1 F1) := hide fun W hW => g1.below (RulR.good D) hW HF1.out
  clear g1
  have HpF0 := hide (pg0.lt (SymR.good D))
  have HXpF0 : Hid (∀ W : World, Below w.heap.size w W → SlR 2 (SymR D) W x.symbols b0 pF0) := hide fun W hW => pg0.below (SymR.good D) hW HpF0.out
  clear pg0
  have HpF1 := hide (pg1.lt (RulR.good D))
  have HXpF1 : Hid (∀ W : World, Below w.heap.size w W → SlR 6 (RulR D) W x.rules b1 pF1) := hide fun W hW => pg1.below (RulR.good D) hW HpF1.out
  clear pg1
  obtain ⟨C1, C2, hz0, hw0⟩ := boxes2 w [a0, a1] [b0, b1] 32 32
  show Calls _ _ #[.agg #[a0, a1], .agg #[b0, b1]] w _
  go_enter Tryz.func8, Tryz.ntmps8
  go_wp2_with fail
  generalize (w.alloc (Obj.cells #[a0, a1] 32)).alloc (Obj.cells #[b0, b1] 32) = W0 at C1 C2 hz0 hw0 ⊢
  have hn0 : (w.heap.size + 2) ≤ W0.heap.size := by omega
  have Hw : Hid (∀ W : World, Below (w.heap.size + 2) W0 W → Below w.heap.size w W) := hide fun W h => hw0.trans (h.mono (by omega))
  have hB0 : Below (w.heap.size + 2) W0 W0 := Below.refl _ _
  have e0 := cell_rule C1 (n := (w.heap.size + 2)) (by omega) 0 (v := a0) rfl
  have g0 := cell_rule C2 (n := (w.heap.size + 2)) (by omega) 0 (v := b0) rfl
  have e1 := cell_rule C1 (n := (w.heap.size + 2)) (by omega) 1 (v := a1) rfl
  have g1 := cell_rule C2 (n := (w.heap.size + 2)) (by omega) 1 (v := b1) rfl
  clear C1 C2 hz0 hw0
  refine Calls.mono (es_Sym D x.symbols _ _ F0 pF0 _ (HXF0.out _ (Hw.out _ hB0)) (HXpF0.out _ (Hw.out _ hB0))) ?_
  rintro en W1 ⟨rfl, hb⟩
  have hB1 : Below (w.heap.size + 2) W0 W1 := below_step hB0 hn0 hb
  clear hb
  go_wp2_with fail
  refine Calls.mono (es_Rul D x.rules _ _ F1 pF1 _ (HXF1.out _ (Hw.out _ hB1)) (HXpF1.out _ (Hw.out _ hB1))) ?_
  rintro en W2 ⟨rfl, hb⟩
  have hB2 : Below (w.heap.size + 2) W0 W2 := below_step hB1 hn0 hb
  clear hb
  go_wp2_with fail
  go_ret
  exact ⟨rfl, Hw.out _ hB2⟩
set_option maxRecDepth 100000 in
theorem c_Grm (D : Nat) (x : Grm) (cs : List Value) (F : List Nat) (w : World) (h : GrmR D w x cs F) (hbk : bulkGrm D x ≤ 1048576) :
    Calls Tryz.prog 6 #[.agg cs.toArray] w fun en w' => ∃ us F', en = .returned (.agg (List.toArray us)) ∧ GrmR D w' x us F' ∧ Fresh w.heap.size w' F' ∧ Below w.heap.size w w' := by
  obtain ⟨c0, c1, rfl⟩ := list2 ((GrmR.good D).len h)
  obtain ⟨v0, F0, v1, F1, _, ⟨h0, g0⟩, ⟨h1, g1⟩, rfl⟩ := h
  obtain rfl := Option.some.inj h0
  obtain rfl := Option.some.inj h1
  have Hbk := hide hbk
  clear hbk
  have HF0 := hide (g0.lt (SymR.good D))
  have HX0 : Hid (∀ W : World, Below w.heap.size w W → SlR 2 (SymR D) W x.symbols c0 F0) := hide fun W hW => g0.below (SymR.good D) hW HF0.out
  clear g0
  have HF1 := hide (g1.lt (RulR.good D))
  have HX1 : Hid (∀ W : World, Below w.heap.size w W → SlR 6 (RulR D) W x.rules c1 F1) := hide fun W hW => g1.below (RulR.good D) hW HF1.out
  clear g1
  have Hb0 : Hid (x.symbols.length ≤ 1048576 ∧ sumBy (bulkSym D) x.symbols ≤ 1048576) := hide (by
    have hb := Hbk.out
    unfold bulkGrm at hb
    have := sumBy_nonneg (bulkSym_nonneg D) x.symbols; have := sumBy_nonneg (bulkRul_nonneg D) x.rules
    omega)
  have Hb1 : Hid (x.rules.length ≤ 1048576 ∧ sumBy (bulkRul D) x.rules ≤ 1048576) := hide (by
    have hb := Hbk.out
    unfold bulkGrm at hb
    have := sumBy_nonneg (bulkSym_nonneg D) x.symbols; have := sumBy_nonneg (bulkRul_nonneg D) x.rules
    omega)
  obtain ⟨C, hz0, hw0⟩ := boxes1 w [c0, c1] 25
  show Calls _ _ #[.agg #[c0, c1]] w _
  go_enter Tryz.func6, Tryz.ntmps6
  go_wp2_with fail
  have hA1 := heap_alloc_new (w.alloc (Obj.cells #[c0, c1] 25)) (Obj.cells #[.slice none 0 0, .slice none 0 0] 32)
  have hA2 := heap_alloc_new ((w.alloc (Obj.cells #[c0, c1] 25)).alloc (Obj.cells #[.slice none 0 0, .slice none 0 0] 32)) (Obj.cells #[.slice none 0 0, .slice none 0 0] 32)
  have hA0 : Below (w.heap.size + 1) (w.alloc (Obj.cells #[c0, c1] 25)) (((w.alloc (Obj.cells #[c0, c1] 25)).alloc (Obj.cells #[.slice none 0 0, .slice none 0 0] 32)).alloc (Obj.cells #[.slice none 0 0, .slice none 0 0] 32)) := ((Below.refl _ _).alloc (Nat.le_of_eq hz0.symm) _).alloc (by simp) _
  rw [hz0] at hA1
  have hA3 := (Below.heap_alloc ((w.alloc (Obj.cells #[c0, c1] 25)).alloc (Obj.cells #[.slice none 0 0, .slice none 0 0] 32)) (Obj.cells #[.slice none 0 0, .slice none 0 0] 32) (w.heap.size + 1) (by simp)).trans hA1
  have hz2 : (((w.alloc (Obj.cells #[c0, c1] 25)).alloc (Obj.cells #[.slice none 0 0, .slice none 0 0] 32)).alloc (Obj.cells #[.slice none 0 0, .slice none 0 0] 32)).heap.size = w.heap.size + 3 := by simp
  rw [World.size_alloc, hz0] at hA2
  clear hA1
  have hB0 := hA0
  generalize ((w.alloc (Obj.cells #[c0, c1] 25)).alloc (Obj.cells #[.slice none 0 0, .slice none 0 0] 32)).alloc (Obj.cells #[.slice none 0 0, .slice none 0 0] 32) = W0 at hA0 hA2 hA3 hz2 hB0 ⊢
  generalize w.alloc (Obj.cells #[c0, c1] 25) = U at C hz0 hw0 hA0 hB0
  have hn0 : (w.heap.size + 1) ≤ U.heap.size := by omega
  have Hw : Hid (∀ W : World, Below (w.heap.size + 1) U W → Below w.heap.size w W) := hide fun W h => hw0.trans (h.mono (by omega))
  have e0 := cell_rule C (n := (w.heap.size + 1)) (by omega) 0 (v := c0) rfl
  have e1 := cell_rule C (n := (w.heap.size + 1)) (by omega) 1 (v := c1) rfl
  have hZ0 : w.heap.size + 3 ≤ W0.heap.size := by omega
  clear C hz0 hw0 hA0 hz2
  have HR3_0 := hide hA2
  have HR2_0 := hide hA3
  clear hA2 hA3
  have hst := fun (w : World) (a : Addr) (v : Value) (m : Mode) (hv : v.oneCell' = true) => run_store Tryz.prog w a v m hv
  refine Calls.mono (cs_Sym D x.symbols _ F0 _ (HX0.out _ (Hw.out _ hB0)) Hb0.out.1 Hb0.out.2) ?_
  rintro en W1 ⟨u0_0, G0, rfl, hR, hf, hb⟩
  obtain ⟨A_0, k_0, rfl, _, _⟩ := hR.form
  have HR0 := hide hR
  have Hf0 := hide hf
  have hY1 : Below (w.heap.size + 1) U W1 := below_step hB0 hn0 hb
  have HL0 : Hid (Later (w.heap.size + 3) W0 W1) := hide (Later.of_below hb)
  have h3 := blk_below HR3_0.out hb (by omega)
  have h2 := blk_below HR2_0.out hb (by omega)
  have hY := hb.size
  have hS1 : w.heap.size + 3 ≤ W1.heap.size := by omega
  clear hR hf hb hY
  have q0 := cell_at (i := 0) h3 (by simp)
  have g0 := frozen_of_row W1 (w.heap.size + 1 + 1) 0 _ _ h3
  simp only [Array.getD_eq_getD_getElem?, List.getElem?_toArray, List.getElem?_cons_succ, List.getElem?_cons_zero, Option.getD_some] at q0
  have H3 := hide h3
  have H2 := hide h2
  clear h3 h2
  go_wp2_with fail
  show Calls _ _ _ (putCells W1 (w.heap.size + 1 + 1) 0 [.slice A_0 x.symbols.length k_0]) _
  have hP := put_spec [.slice A_0 x.symbols.length k_0] 0 W1 _ H3.out (by simp)
  have h3 := put_blk [.slice A_0 x.symbols.length k_0] 0 W1 _ H3.out
  simp only [setMany, List.setIfInBounds_toArray, List.set_cons_zero, List.set_cons_succ] at h3
  have hBn : Below (w.heap.size + 1) U (putCells W1 (w.heap.size + 1 + 1) 0 [.slice A_0 x.symbols.length k_0]) := hY1.trans (hP.below (by omega))
  have hLn : Later (w.heap.size + 3) W1 (putCells W1 (w.heap.size + 1 + 1) 0 [.slice A_0 x.symbols.length k_0]) := Later.of_put hP (by omega)
  have h2 := (hP.far (w.heap.size + 1) (by omega)).trans H2.out
  have hZn : w.heap.size + 3 ≤ (putCells W1 (w.heap.size + 1 + 1) 0 [.slice A_0 x.symbols.length k_0]).heap.size := by rw [hP.size]; exact hS1
  clear hP q0 g0
  generalize putCells W1 (w.heap.size + 1 + 1) 0 [.slice A_0 x.symbols.length k_0] = V1 at h3 h2 hBn hLn hZn ⊢
  have hB1 := hBn
  have HK0 := hide hLn
  have HR3_1 := hide h3
  have HR2_1 := hide h2
  have hT1 := hZn
  clear hBn hLn h3 h2 hZn hY1 hS1
  refine Calls.mono (cs_Rul D x.rules _ F1 _ (HX1.out _ (Hw.out _ hB1)) Hb1.out.1 Hb1.out.2) ?_
  rintro en W2 ⟨u1_0, G1, rfl, hR, hf, hb⟩
  obtain ⟨A_1, k_1, rfl, _, _⟩ := hR.form
  have HR1 := hide hR
  have Hf1 := hide hf
  have hY2 : Below (w.heap.size + 1) U W2 := below_step hB1 hn0 hb
  have HL1 : Hid (Later (w.heap.size + 3) V1 W2) := hide (Later.of_below hb)
  have h3 := blk_below HR3_1.out hb (by omega)
  have h2 := blk_below HR2_1.out hb (by omega)
  have hY := hb.size
  have hS2 : w.heap.size + 3 ≤ W2.heap.size := by omega
  clear hR hf hb hY
  have q0 := cell_at (i := 0) h3 (by simp)
  have g0 := frozen_of_row W2 (w.heap.size + 1 + 1) 0 _ _ h3
  have q1 := cell_at (i := 1) h3 (by simp)
  have g1 := frozen_of_row W2 (w.heap.size + 1 + 1) 1 _ _ h3
  have r0 := cell_at (i := 0) h2 (by simp)
  have s0 := frozen_of_row W2 (w.heap.size + 1) 0 _ _ h2
  have r1 := cell_at (i := 1) h2 (by simp)
  have s1 := frozen_of_row W2 (w.heap.size + 1) 1 _ _ h2
  simp only [Array.getD_eq_getD_getElem?, List.getElem?_toArray, List.getElem?_cons_succ, List.getElem?_cons_zero, Option.getD_some] at q0 q1 r0 r1
  have H3 := hide h3
  have H2 := hide h2
  clear h3 h2
  go_wp2_with fail
  change bodyPost _ _ _ _ _ (putCells (putCells W2 (w.heap.size + 1 + 1) 1 [.slice A_1 x.rules.length k_1]) (w.heap.size + 1) 0 [.slice A_0 x.symbols.length k_0, .slice A_1 x.rules.length k_1])
  have hP := put_spec [.slice A_1 x.rules.length k_1] 1 W2 _ H3.out (by simp)
  have hQ := put_spec [.slice A_0 x.symbols.length k_0, .slice A_1 x.rules.length k_1] 0 (putCells W2 (w.heap.size + 1 + 1) 1 [.slice A_1 x.rules.length k_1]) _ ((hP.far (w.heap.size + 1) (by omega)).trans H2.out) (by simp)
  have hB : Below (w.heap.size + 1) U (putCells (putCells W2 (w.heap.size + 1 + 1) 1 [.slice A_1 x.rules.length k_1]) (w.heap.size + 1) 0 [.slice A_0 x.symbols.length k_0, .slice A_1 x.rules.length k_1]) := hY2.trans ((hP.below (by omega)).trans (hQ.below (by omega)))
  have hL : Later (w.heap.size + 3) W2 (putCells (putCells W2 (w.heap.size + 1 + 1) 1 [.slice A_1 x.rules.length k_1]) (w.heap.size + 1) 0 [.slice A_0 x.symbols.length k_0, .slice A_1 x.rules.length k_1]) := (Later.of_put hP (by omega)).trans (Later.of_put hQ (by omega))
  have hC := hQ.cellsAt
  generalize putCells (putCells W2 (w.heap.size + 1 + 1) 1 [.slice A_1 x.rules.length k_1]) (w.heap.size + 1) 0 [.slice A_0 x.symbols.length k_0, .slice A_1 x.rules.length k_1] = WF at hB hL hC ⊢
  have x0 : WF.cell? ⟨(w.heap.size + 1), 0, none⟩ = some (.slice A_0 x.symbols.length k_0) := hC 0 _ rfl
  have x1 : WF.cell? ⟨(w.heap.size + 1), 1, none⟩ = some (.slice A_1 x.rules.length k_1) := (show WF.cell? ⟨(w.heap.size + 1), 0 + 1, none⟩ = _ from hC 1 _ rfl)
  have hFin : GrmR D WF x [.slice A_0 x.symbols.length k_0, .slice A_1 x.rules.length k_1] (G0 ++ G1) := ⟨_, G0, _, G1, rfl, ⟨rfl, HR0.out.later (SymR.good D) Hf0.out (HK0.out.trans (HL1.out.trans (hL))) (by omega)⟩, ⟨rfl, HR1.out.later (RulR.good D) Hf1.out (hL) (by omega)⟩, rfl⟩
  have hFr : Fresh w.heap.size WF (G0 ++ G1) := ((Hf0.out.later (HK0.out.trans (HL1.out.trans (hL))) (by omega)).append (Hf1.out.later (hL) (by omega)) (fun b hb => by have := Hf0.out.lt b hb; have := HK0.out.size; omega) (by have := HK0.out.size; have := HL0.out.size; omega)).mono (by omega)
  exact bodyPost_ret (v := .agg #[.slice A_0 x.symbols.length k_0, .slice A_1 x.rules.length k_1]) (by simp [results, Tryz.results6, go_sem, x0, x1]) rfl ⟨[.slice A_0 x.symbols.length k_0, .slice A_1 x.rules.length k_1], (G0 ++ G1), rfl, hFin, hFr, Hw.out _ hB⟩
end Go.Proofs.YthlhhnnlbpecnaaGreat
