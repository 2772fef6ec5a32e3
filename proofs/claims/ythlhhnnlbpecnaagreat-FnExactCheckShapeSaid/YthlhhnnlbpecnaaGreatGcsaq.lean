/- Several texts of one proof in one file: Is a rule valid? Contracts of both sides. Conditions: each theorem names its own. -/
import Derived.Test.YthlhhnnlbpecnaaGreatGcsal
import Derived.Test.YthlhhnnlbpecnaaGreatGcsap

/- Is a rule valid? Contracts of both sides. Conditions: the rule has at most the size 2^20. -/
namespace Go.Proofs.YthlhhnnlbpecnaaGreat
set_option linter.unusedSimpArgs false
set_option linter.unusedVariables false
set_option maxRecDepth 100000
open Go.RowKit Go.WideShapes
set_option linter.unusedVariables false

def eqnOk (D : Nat) (n : Int) (q : Eqn) : Bool := validN q.at_.name && inR q.at_.pos 0 n && fitsE D q.expr n
def conOk (D : Nat) (n : Int) (c : Con) : Bool := validN c.symbol && validN c.name && fitsE D c.target n && fitsE D c.value n
def validRul (D : Nat) (x : Rul) : Bool := validN x.name && validN x.left && !decide (3 < x.right.length) && !decide (2 < x.cons.length) && x.right.all validN && x.eqs.all (eqnOk D x.right.length) && x.cons.all (conOk D x.right.length)
theorem all_bad {α : Type} {f : α → Bool} {l : List α} {j : Nat} {x : α} (hx : l[j]? = some x) (h : f x = false) : l.all f = false := by
  rw [List.all_eq_false]
  exact ⟨x, List.mem_of_getElem? hx, by simp [h]⟩
theorem all_step {α : Type} {f : α → Bool} {l : List α} {j : Nat} {x : α} (hx : l[j]? = some x) (h : (l.take j).all f = true) (hf : f x = true) : (l.take (j + 1)).all f = true := by
  rw [List.take_add_one, hx]
  simp [List.all_append, h, hf]
theorem i_validB (s : ByteArray) (w : World) (hs : s.size ≤ maxLen) : Calls Tryz.prog 81 #[.string s] w fun e w' => e = .returned (.bool (validN s)) ∧ Below w.heap.size w w' := (i_IsValidName s w hs).mono fun e w' ⟨h, hw⟩ => ⟨h, hw ▸ Below.refl _ _⟩
theorem i_withinB (x lo hi : Int) (w : World) : Calls Tryz.prog 16 #[.int .i64 x, .int .i64 lo, .int .i64 hi] w fun e w' => e = .returned (.bool (inR x lo hi)) ∧ Below w.heap.size w w' := (i_within x lo hi w).mono fun e w' ⟨h, hw⟩ => ⟨h, hw ▸ Below.refl _ _⟩
theorem s_inB (x lo hi : Int) (w : World) : Calls Tryz.prog 11 #[.int .i64 x, .int .i64 lo, .int .i64 hi] w fun e w' => e = .returned (.bool (inR x lo hi)) ∧ Below w.heap.size w w' := (s_l1In x lo hi w).mono fun e w' ⟨h, hw⟩ => ⟨h, hw ▸ Below.refl _ _⟩
set_option maxHeartbeats 4000000 in
theorem i_IsValidRule (D : Nat) (x : Rul) (cs : List Value) (F : List Nat) (w : World) (h : RulR D w x cs F) (hbk : bulkRul D x ≤ 1048576) :
    Calls Tryz.prog 40 #[.agg cs.toArray] w fun en w' => en = .returned (.bool (validRul D x)) ∧ Below w.heap.size w w' := by
  obtain ⟨p0, p1, p2, p3, p4, p5, rfl⟩ := list_6 ((RulR.good D).len h)
  obtain ⟨v2, F2, v4, F4, v5, F5, hl, hok, h0, h1, ⟨h2, g2⟩, h3, ⟨h4, g4⟩, ⟨h5, g5⟩, rfl⟩ := h
  obtain rfl := Option.some.inj h0
  obtain rfl := Option.some.inj h1
  obtain rfl := Option.some.inj h2
  obtain rfl := Option.some.inj h3
  obtain rfl := Option.some.inj h4
  obtain rfl := Option.some.inj h5
  obtain ⟨A2, c2, rfl, hc2, hm2⟩ := g2.form
  obtain ⟨A4, c4, rfl, hc4, hm4⟩ := g4.form
  obtain ⟨A5, c5, rfl, hc5, hm5⟩ := g5.form
  have hsx := hide (g2.strs).2
  have Hz0 := hide hok.name
  have Hz1 := hide hok.left
  unfold maxLen at hm2 hm4 hm5
  have Lg2 := hide (g2.lt (StrR.good D))
  have Hg2 : Hid (∀ W : World, Below w.heap.size w W → SlR 1 (StrR D) W x.right (.slice A2 x.right.length c2) F2) := hide fun W hW => g2.below (StrR.good D) hW Lg2.out
  have Lg4 := hide (g4.lt (EqnR.good D))
  have Hg4 : Hid (∀ W : World, Below w.heap.size w W → SlR 9 (EqnR D) W x.eqs (.slice A4 x.eqs.length c4) F4) := hide fun W hW => g4.below (EqnR.good D) hW Lg4.out
  have Lg5 := hide (g5.lt (ConR.good D))
  have Hg5 : Hid (∀ W : World, Below w.heap.size w W → SlR 16 (ConR D) W x.cons (.slice A5 x.cons.length c5) F5) := hide fun W hW => g5.below (ConR.good D) hW Lg5.out
  have HbE : Hid (∀ q ∈ x.eqs, bulkE D q.expr ≤ 1048576) := hide fun q hq => by
    have h1 := sumBy_mem (bulkEqn_nonneg D) hq
    have h2 := bulkS_nonneg x.right
    have h3 := sumBy_nonneg (bulkCon_nonneg D) x.cons
    have h4 : bulkE D q.expr ≤ bulkEqn D q := by unfold bulkEqn bulkOcc; omega
    unfold bulkRul at hbk
    omega
  have HbC : Hid (∀ q ∈ x.cons, bulkE D q.target ≤ 1048576 ∧ bulkE D q.value ≤ 1048576) := hide fun q hq => by
    have h1 := sumBy_mem (bulkCon_nonneg D) hq
    have h2 := bulkS_nonneg x.right
    have h3 := sumBy_nonneg (bulkEqn_nonneg D) x.eqs
    have h4 := bulkE_nonneg D q.target
    have h5 := bulkE_nonneg D q.value
    have h6 : bulkE D q.target + bulkE D q.value ≤ bulkCon D q := by unfold bulkCon; omega
    unfold bulkRul at hbk
    omega
  have C := CellsAt.new w [.string x.name, .string x.left, .slice A2 x.right.length c2, .bool x.lit, .slice A4 x.eqs.length c4, .slice A5 x.cons.length c5] 50
  have hz0 := World.size_alloc w (Obj.cells #[.string x.name, .string x.left, .slice A2 x.right.length c2, .bool x.lit, .slice A4 x.eqs.length c4, .slice A5 x.cons.length c5] 50)
  have hw0 : Below w.heap.size w (w.alloc (Obj.cells #[.string x.name, .string x.left, .slice A2 x.right.length c2, .bool x.lit, .slice A4 x.eqs.length c4, .slice A5 x.cons.length c5] 50)) := (Below.refl _ _).alloc (Nat.le_refl _) _
  show Calls _ _ #[.agg #[.string x.name, .string x.left, .slice A2 x.right.length c2, .bool x.lit, .slice A4 x.eqs.length c4, .slice A5 x.cons.length c5]] w _
  clear g2 g4 g5 hl h0 h1 h2 h3 h4 h5 hbk hok
  have hlr : x.right.length ≤ 9223372036854775807 := by omega
  have hle : x.eqs.length ≤ 9223372036854775807 := by omega
  have hlc : x.cons.length ≤ 9223372036854775807 := by omega
  clear hc2 hm2 hc4 hm4 hc5 hm5
  go_enter Tryz.func40, Tryz.ntmps40
  go_wp2_with fail
  generalize w.alloc (Obj.cells #[.string x.name, .string x.left, .slice A2 x.right.length c2, .bool x.lit, .slice A4 x.eqs.length c4, .slice A5 x.cons.length c5] 50) = W0 at C hz0 hw0 ⊢
  have hn0 : (w.heap.size + 1) ≤ W0.heap.size := by omega
  have Hw : Hid (∀ W : World, Below (w.heap.size + 1) W0 W → Below w.heap.size w W) := hide fun W h => hw0.trans (h.mono (by omega))
  have hB0 : Below (w.heap.size + 1) W0 W0 := Below.refl _ _
  have e0 := cell_rule C (n := (w.heap.size + 1)) (by omega) 0 rfl
  have e1 := cell_rule C (n := (w.heap.size + 1)) (by omega) 1 rfl
  have e2 := cell_rule C (n := (w.heap.size + 1)) (by omega) 2 rfl
  have e3 := cell_rule C (n := (w.heap.size + 1)) (by omega) 3 rfl
  have e4 := cell_rule C (n := (w.heap.size + 1)) (by omega) 4 rfl
  have e5 := cell_rule C (n := (w.heap.size + 1)) (by omega) 5 rfl
  clear C hz0 hw0
  refine Calls.mono (i_validB x.name W0 Hz0.out) ?_
  rintro en w1 ⟨rfl, hb⟩
  have hB1 : Below (w.heap.size + 1) W0 w1 := below_step hB0 hn0 hb
  clear hb
  cases hq1 : validN x.name
  · have Hbad : Hid (validRul D x = false) := hide (by unfold validRul; rw [hq1]; rfl)
    go_wp2_with fail
    go_ret
    exact ⟨ret_bool Hbad.out.symm, Hw.out _ hB1⟩
  go_wp2_with fail
  refine Calls.mono (i_validB x.left w1 Hz1.out) ?_
  rintro en w2 ⟨rfl, hb⟩
  have hB2 : Below (w.heap.size + 1) W0 w2 := below_step hB1 hn0 hb
  clear hb
  cases hq2 : validN x.left
  · have Hbad : Hid (validRul D x = false) := hide (by unfold validRul; rw [hq1, hq2]; rfl)
    go_wp2_with fail
    go_ret
    exact ⟨ret_bool Hbad.out.symm, Hw.out _ hB2⟩
  have Hp : Hid (validRul D x = (!decide (3 < x.right.length) && !decide (2 < x.cons.length) && x.right.all validN && x.eqs.all (eqnOk D x.right.length) && x.cons.all (conOk D x.right.length))) := hide (by unfold validRul; rw [hq1, hq2]; rfl)
  clear hq1 hq2
  by_cases t2 : (3 : Int) < (x.right.length : Int)
  · have Hbad : Hid (validRul D x = false) := hide (by rw [Hp.out]; have : decide (3 < x.right.length) = true := by simp; omega
                                                       rw [this]; rfl)
    go_wp2_with fail
    go_ret
    exact ⟨ret_bool Hbad.out.symm, Hw.out _ hB2⟩
  by_cases t3 : (2 : Int) < (x.cons.length : Int)
  · have Hbad : Hid (validRul D x = false) := hide (by rw [Hp.out]; have : decide (2 < x.cons.length) = true := by simp; omega
                                                       rw [this]; simp)
    go_wp2_with fail
    go_ret
    exact ⟨ret_bool Hbad.out.symm, Hw.out _ hB2⟩
  have Hp2 : Hid (validRul D x = (x.right.all validN && x.eqs.all (eqnOk D x.right.length) && x.cons.all (conOk D x.right.length))) := hide (by
    have h1 : decide (3 < x.right.length) = false := by simp; omega
    have h2 : decide (2 < x.cons.length) = false := by simp; omega
    rw [Hp.out, h1, h2]; rfl)
  go_wp2_with fail
  go_loopw [36] (fun i wr => ∃ j : Nat, j ≤ x.right.length ∧ i = .int .i64 j ∧ Hid ((x.right.take j).all validN = true) ∧ Hid (Below (w.heap.size + 1) W0 wr)) (fun i _ => x.right.length - (intOf i).toNat)
  case atStart => exact ⟨0, by omega, rfl, hide rfl, hide hB2⟩
  case round =>
    obtain ⟨j, hj, rfl, Hall, Hb⟩ := hrel
    have hBr := Hb.out
    clear hB2
    by_cases hlt : j < x.right.length
    · have hX : x.right[j]? = some x.right[j] := List.getElem?_eq_getElem hlt
      generalize x.right[j] = X at hX
      obtain ⟨b, off, cs, Fk, hA, _, hbF, hFk, hcl, hcat, hR⟩ := SlR.get (StrR.good D) (Hg2.out W0 (Hw.out W0 hB0)) hX
      subst hA
      obtain ⟨rfl, hXs, _⟩ := hR
      have hltA : b < (w.heap.size + 1) := Nat.lt_of_lt_of_le (Lg2.out b hbF) (by omega)
      have p0 : ∀ W : World, Below (w.heap.size + 1) W0 W → W.cell? ⟨b, off + j, none⟩ = some (.string X) := fun W h => by
        have := (hcat.below h hltA) 0 _ rfl
        rwa [Nat.mul_one, Nat.add_zero] at this
      have HX := hide hX
      have HXs := hide hXs
      have hj0 : (0 : Int) ≤ (j : Int) := by omega
      have hj1 : (j : Int) < (x.right.length : Int) := by omega
      clear hX hcat hFk hbF hcl hXs
      go_wp2_with fail
      refine Calls.mono (i_validB X wr HXs.out) ?_
      rintro en w3 ⟨rfl, hb⟩
      have hB3 : Below (w.heap.size + 1) W0 w3 := below_step hBr hn0 hb
      clear hb
      cases hq3 : validN X
      · have Hbad : Hid (validRul D x = false) := hide (by rw [Hp2.out, all_bad HX.out hq3]; rfl)
        go_wp2_with fail
        go_ret
        exact ⟨ret_bool Hbad.out.symm, Hw.out _ hB3⟩
      have Hs := hide (all_step HX.out Hall.out hq3)
      have HBk := hide hB3
      clear hq3
      go_wp2_with fail
      go_roundw
      case rel => exact ⟨j + 1, by omega, by go_num, Hs, HBk⟩
      case measure => simp [intOf]; omega
    · have hjl : j = x.right.length := by omega
      subst hjl
      have Hp3 : Hid (validRul D x = (x.eqs.all (eqnOk D x.right.length) && x.cons.all (conOk D x.right.length))) := hide (by have h := Hall.out; rw [List.take_length] at h; rw [Hp2.out, h]; rfl)
      clear hlt Hall
      obtain ⟨W1, hW1⟩ : ∃ W, W = wr := ⟨_, rfl⟩
      subst hW1
      go_wp2_with fail
      go_loopw [47] (fun i wr => ∃ j : Nat, j ≤ x.eqs.length ∧ i = .int .i64 j ∧ Hid ((x.eqs.take j).all (eqnOk D x.right.length) = true) ∧ Hid (Below (w.heap.size + 1) W0 wr)) (fun i _ => x.eqs.length - (intOf i).toNat)
      case atStart => exact ⟨0, by omega, rfl, hide rfl, Hb⟩
      case round =>
        obtain ⟨j, hj, rfl, Hall, Hb⟩ := hrel
        have hBr := Hb.out
        by_cases hlt : j < x.eqs.length
        · have hX : x.eqs[j]? = some x.eqs[j] := List.getElem?_eq_getElem hlt
          generalize x.eqs[j] = X at hX
          obtain ⟨b, off, cs, Fk, hA, _, hbF, hFk, hcl, hcat, hR⟩ := SlR.get (EqnR.good D) (Hg4.out W0 (Hw.out W0 hB0)) hX
          subst hA
          have H1 := hide (EqnR.one hR)
          have hltA : b < (w.heap.size + 1) := Nat.lt_of_lt_of_le (Lg4.out b hbF) (by omega)
          have HF : Hid (∀ k ∈ Fk, k < (w.heap.size + 1)) := hide fun k hk => Nat.lt_of_lt_of_le (Lg4.out k (hFk k hk)) (by omega)
          obtain ⟨a0, a1, a2, a3, a4, a5, a6, a7, a8, rfl⟩ := list_9 hcl
          obtain ⟨f0, f1, _, hO, hE, hFF⟩ := hR
          obtain ⟨_, hOk, r0, r1, _⟩ := hO
          obtain rfl : a0 = .int .i64 X.at_.pos := by simpa using r0
          obtain rfl : a1 = .string X.at_.name := by simpa using r1
          have HE : Hid (∀ W : World, Below (w.heap.size + 1) W0 W → ExR D W X.expr [a2, a3, a4, a5, a6, a7, a8] f1) := hide fun W h => (ExR.good D).below hE h (fun k hk => HF.out k (by rw [hFF]; simp [hk]))
          have HX := hide hX
          have HN := hide hOk.name
          have HBE := hide (HbE.out X (List.mem_of_getElem? hX))
          have Hc : Hid (CellsAt wr b (off + j * 9) [.int .i64 X.at_.pos, .string X.at_.name, a2, a3, a4, a5, a6, a7, a8]) := hide (hcat.below hBr hltA)
          have hi : (Tryz.prog.info? 88).map (·.size) = some 9 := by kernel_rfl
          have hi7 : (Tryz.prog.info? 86).map (·.size) = some 7 := by kernel_rfl
          have Hi := hide hi
          have Hi7 := hide hi7
          have Hn : Hid ([.int .i64 X.at_.pos, .string X.at_.name, a2, a3, a4, a5, a6, a7, a8].length = 9) := hide rfl
          have hj0 : (0 : Int) ≤ (j : Int) := by omega
          have hj1 : (j : Int) < (x.eqs.length : Int) := by omega
          clear hX hcat hFk hbF hcl hE r0 r1 hFF hi hi7 hOk
          go_wp2_with (first
            | refine wpList_load_at 88 (.tmp 49) rfl Tryz.underlying88 rfl Hi.out rfl rfl Hn.out Hc.out ?_
            | (refine wpList_store_new 88 (.tmp 7) (.tmp 50) rfl Hi.out rfl rfl rfl rfl Hn.out H1.out rfl ?_; refine hold ?_))
          have C := CellsAt.new wr [.int .i64 X.at_.pos, .string X.at_.name, a2, a3, a4, a5, a6, a7, a8] 88
          have hz := World.size_alloc wr (Obj.cells #[.int .i64 X.at_.pos, .string X.at_.name, a2, a3, a4, a5, a6, a7, a8] 88)
          have hwv : Below (w.heap.size + 1) W0 (wr.alloc (Obj.cells #[.int .i64 X.at_.pos, .string X.at_.name, a2, a3, a4, a5, a6, a7, a8] 88)) := hBr.alloc (Nat.le_trans hn0 hBr.size) _
          generalize wr.alloc (Obj.cells #[.int .i64 X.at_.pos, .string X.at_.name, a2, a3, a4, a5, a6, a7, a8] 88) = V1 at C hz hwv ⊢
          have hn1 : (wr.heap.size + 1) ≤ V1.heap.size := by omega
          have hsz := hBr.size
          have HwV : Hid (∀ W : World, Below (wr.heap.size + 1) V1 W → Below (w.heap.size + 1) W0 W) := hide fun W h => hwv.trans (h.mono (by omega))
          have hV : Below (wr.heap.size + 1) V1 V1 := Below.refl _ _
          have c0 := cell_rule C (n := (wr.heap.size + 1)) (by omega) 0 (v := .int .i64 X.at_.pos) rfl
          have c1 := cell_rule C (n := (wr.heap.size + 1)) (by omega) 1 (v := .string X.at_.name) rfl
          have HC2 : Hid (∀ W : World, Below (wr.heap.size + 1) V1 W → CellsAt W wr.heap.size 2 [a2, a3, a4, a5, a6, a7, a8]) := hide fun W h i v hv => by have := (C.below h (by omega)) (2 + i) v (by simpa [Nat.add_comm] using hv); rwa [Nat.zero_add] at this
          have d0 : ∀ W : World, Below (wr.heap.size + 1) V1 W → _ := fun W h => e0 W (HwV.out W h)
          have d1 : ∀ W : World, Below (wr.heap.size + 1) V1 W → _ := fun W h => e1 W (HwV.out W h)
          have d2 : ∀ W : World, Below (wr.heap.size + 1) V1 W → _ := fun W h => e2 W (HwV.out W h)
          have d3 : ∀ W : World, Below (wr.heap.size + 1) V1 W → _ := fun W h => e3 W (HwV.out W h)
          have d4 : ∀ W : World, Below (wr.heap.size + 1) V1 W → _ := fun W h => e4 W (HwV.out W h)
          have d5 : ∀ W : World, Below (wr.heap.size + 1) V1 W → _ := fun W h => e5 W (HwV.out W h)
          clear C hz hwv hsz e0 e1 e2 e3 e4 e5
          refine Hold.go ?_
          go_wp2_with (refine wpList_load_at 86 (.tmp 51) rfl Tryz.underlying86 rfl Hi7.out rfl rfl rfl (HC2.out _ (by assumption)) ?_)
          refine Calls.mono (i_fits D X.expr _ f1 V1 (HE.out _ (HwV.out _ hV)) HBE.out x.right.length) ?_
          rintro en w4 ⟨rfl, hb⟩
          have hB4 : Below (wr.heap.size + 1) V1 w4 := below_step hV hn1 hb
          clear hb
          cases hq4 : fitsE D X.expr x.right.length
          · have Hbad : Hid (validRul D x = false) := hide (by rw [Hp3.out, all_bad HX.out (by unfold eqnOk; simp [hq4])]; rfl)
            go_wp2_with fail
            go_ret
            exact ⟨ret_bool Hbad.out.symm, Hw.out _ (HwV.out _ hB4)⟩
          go_wp2_with (refine wpList_load_at 86 (.tmp 51) rfl Tryz.underlying86 rfl Hi7.out rfl rfl rfl (HC2.out _ (by assumption)) ?_)
          refine Calls.mono (i_validB X.at_.name w4 HN.out) ?_
          rintro en w5 ⟨rfl, hb⟩
          have hB5 : Below (wr.heap.size + 1) V1 w5 := below_step hB4 hn1 hb
          clear hb
          cases hq5 : validN X.at_.name
          · have Hbad : Hid (validRul D x = false) := hide (by rw [Hp3.out, all_bad HX.out (by unfold eqnOk; simp [hq5])]; rfl)
            go_wp2_with fail
            go_ret
            exact ⟨ret_bool Hbad.out.symm, Hw.out _ (HwV.out _ hB5)⟩
          go_wp2_with (refine wpList_load_at 86 (.tmp 51) rfl Tryz.underlying86 rfl Hi7.out rfl rfl rfl (HC2.out _ (by assumption)) ?_)
          refine Calls.mono (i_withinB X.at_.pos 0 x.right.length w5) ?_
          rintro en w6 ⟨rfl, hb⟩
          have hB6 : Below (wr.heap.size + 1) V1 w6 := below_step hB5 hn1 hb
          clear hb
          cases hq6 : inR X.at_.pos 0 x.right.length
          · have Hbad : Hid (validRul D x = false) := hide (by rw [Hp3.out, all_bad HX.out (by unfold eqnOk; simp [hq6])]; rfl)
            go_wp2_with fail
            go_ret
            exact ⟨ret_bool Hbad.out.symm, Hw.out _ (HwV.out _ hB6)⟩
          have Hs := hide (all_step (f := eqnOk D x.right.length) HX.out Hall.out (by unfold eqnOk; simp [hq4, hq5, hq6]))
          have HBk := hide (HwV.out _ hB6)
          clear hq4 hq5 hq6
          go_wp2_with fail
          go_roundw
          case rel => exact ⟨j + 1, by omega, by go_num, Hs, HBk⟩
          case measure => simp [intOf]; omega
        · have hjl : j = x.eqs.length := by omega
          subst hjl
          have Hp4 : Hid (validRul D x = x.cons.all (conOk D x.right.length)) := hide (by have h := Hall.out; rw [List.take_length] at h; rw [Hp3.out, h]; rfl)
          clear hlt Hall
          obtain ⟨W2, hW2⟩ : ∃ W, W = wr := ⟨_, rfl⟩
          subst hW2
          go_wp2_with fail
          go_loopw [75] (fun i wr => ∃ j : Nat, j ≤ x.cons.length ∧ i = .int .i64 j ∧ Hid ((x.cons.take j).all (conOk D x.right.length) = true) ∧ Hid (Below (w.heap.size + 1) W0 wr)) (fun i _ => x.cons.length - (intOf i).toNat)
          case atStart => exact ⟨0, by omega, rfl, hide rfl, Hb⟩
          case round =>
            obtain ⟨j, hj, rfl, Hall, Hb⟩ := hrel
            have hBr := Hb.out
            by_cases hlt : j < x.cons.length
            · have hX : x.cons[j]? = some x.cons[j] := List.getElem?_eq_getElem hlt
              generalize x.cons[j] = X at hX
              obtain ⟨b, off, cs, Fk, hA, _, hbF, hFk, hcl, hcat, hR⟩ := SlR.get (ConR.good D) (Hg5.out W0 (Hw.out W0 hB0)) hX
              subst hA
              have H1 := hide (ConR.one hR)
              have hltA : b < (w.heap.size + 1) := Nat.lt_of_lt_of_le (Lg5.out b hbF) (by omega)
              have HF : Hid (∀ k ∈ Fk, k < (w.heap.size + 1)) := hide fun k hk => Nat.lt_of_lt_of_le (Lg5.out k (hFk k hk)) (by omega)
              obtain ⟨a0, a1, a2, a3, a4, a5, a6, a7, a8, a9, a10, a11, a12, a13, a14, a15, rfl⟩ := list_16 hcl
              obtain ⟨f1, f2, _, hOk, r0, r1, hE, hE2, hFF⟩ := hR
              obtain rfl : a0 = .string X.symbol := by simpa using r0
              obtain rfl : a1 = .string X.name := by simpa using r1
              have HE : Hid (∀ W : World, Below (w.heap.size + 1) W0 W → ExR D W X.target [a2, a3, a4, a5, a6, a7, a8] f1) := hide fun W h => (ExR.good D).below hE h (fun k hk => HF.out k (by rw [hFF]; simp [hk]))
              have HE2 : Hid (∀ W : World, Below (w.heap.size + 1) W0 W → ExR D W X.value [a9, a10, a11, a12, a13, a14, a15] f2) := hide fun W h => (ExR.good D).below hE2 h (fun k hk => HF.out k (by rw [hFF]; simp [hk]))
              have HX := hide hX
              have HS := hide hOk.symbol
              have HN := hide hOk.name
              have HBE := hide (HbC.out X (List.mem_of_getElem? hX))
              have Hc : Hid (CellsAt wr b (off + j * 16) [.string X.symbol, .string X.name, a2, a3, a4, a5, a6, a7, a8, a9, a10, a11, a12, a13, a14, a15]) := hide (hcat.below hBr hltA)
              have hi : (Tryz.prog.info? 107).map (·.size) = some 16 := by kernel_rfl
              have hi7 : (Tryz.prog.info? 86).map (·.size) = some 7 := by kernel_rfl
              have Hi := hide hi
              have Hi7 := hide hi7
              have Hn : Hid ([.string X.symbol, .string X.name, a2, a3, a4, a5, a6, a7, a8, a9, a10, a11, a12, a13, a14, a15].length = 16) := hide rfl
              have hj0 : (0 : Int) ≤ (j : Int) := by omega
              have hj1 : (j : Int) < (x.cons.length : Int) := by omega
              clear hX hcat hFk hbF hcl hE hE2 r0 r1 hFF hi hi7 hOk
              go_wp2_with (first
                | refine wpList_load_at 107 (.tmp 77) rfl Tryz.underlying107 rfl Hi.out rfl rfl Hn.out Hc.out ?_
                | (refine wpList_store_new 107 (.tmp 9) (.tmp 78) rfl Hi.out rfl rfl rfl rfl Hn.out H1.out rfl ?_; refine hold ?_))
              have C := CellsAt.new wr [.string X.symbol, .string X.name, a2, a3, a4, a5, a6, a7, a8, a9, a10, a11, a12, a13, a14, a15] 107
              have hz := World.size_alloc wr (Obj.cells #[.string X.symbol, .string X.name, a2, a3, a4, a5, a6, a7, a8, a9, a10, a11, a12, a13, a14, a15] 107)
              have hwv : Below (w.heap.size + 1) W0 (wr.alloc (Obj.cells #[.string X.symbol, .string X.name, a2, a3, a4, a5, a6, a7, a8, a9, a10, a11, a12, a13, a14, a15] 107)) := hBr.alloc (Nat.le_trans hn0 hBr.size) _
              generalize wr.alloc (Obj.cells #[.string X.symbol, .string X.name, a2, a3, a4, a5, a6, a7, a8, a9, a10, a11, a12, a13, a14, a15] 107) = V1 at C hz hwv ⊢
              have hn1 : (wr.heap.size + 1) ≤ V1.heap.size := by omega
              have hsz := hBr.size
              have HwV : Hid (∀ W : World, Below (wr.heap.size + 1) V1 W → Below (w.heap.size + 1) W0 W) := hide fun W h => hwv.trans (h.mono (by omega))
              have hV : Below (wr.heap.size + 1) V1 V1 := Below.refl _ _
              have c0 := cell_rule C (n := (wr.heap.size + 1)) (by omega) 0 (v := .string X.symbol) rfl
              have c1 := cell_rule C (n := (wr.heap.size + 1)) (by omega) 1 (v := .string X.name) rfl
              have HC2 : Hid (∀ W : World, Below (wr.heap.size + 1) V1 W → CellsAt W wr.heap.size 2 [a2, a3, a4, a5, a6, a7, a8]) := hide fun W h i v hv => by have := (C.below h (by omega)) (2 + i) v (by have hi := (List.getElem?_eq_some_iff.1 hv).1; simp at hi; match i, hi with | 0, _ => exact hv | 1, _ => exact hv | 2, _ => exact hv | 3, _ => exact hv | 4, _ => exact hv | 5, _ => exact hv | 6, _ => exact hv | i + 7, hi => omega); rwa [Nat.zero_add] at this
              have HC9 : Hid (∀ W : World, Below (wr.heap.size + 1) V1 W → CellsAt W wr.heap.size 9 [a9, a10, a11, a12, a13, a14, a15]) := hide fun W h i v hv => by have := (C.below h (by omega)) (9 + i) v (by simpa [Nat.add_comm] using hv); rwa [Nat.zero_add] at this
              have d0 : ∀ W : World, Below (wr.heap.size + 1) V1 W → _ := fun W h => e0 W (HwV.out W h)
              have d1 : ∀ W : World, Below (wr.heap.size + 1) V1 W → _ := fun W h => e1 W (HwV.out W h)
              have d2 : ∀ W : World, Below (wr.heap.size + 1) V1 W → _ := fun W h => e2 W (HwV.out W h)
              have d3 : ∀ W : World, Below (wr.heap.size + 1) V1 W → _ := fun W h => e3 W (HwV.out W h)
              have d4 : ∀ W : World, Below (wr.heap.size + 1) V1 W → _ := fun W h => e4 W (HwV.out W h)
              have d5 : ∀ W : World, Below (wr.heap.size + 1) V1 W → _ := fun W h => e5 W (HwV.out W h)
              clear C hz hwv hsz e0 e1 e2 e3 e4 e5
              refine Hold.go ?_
              go_wp2_with (first | refine wpList_load_at 86 (.tmp 79) rfl Tryz.underlying86 rfl Hi7.out rfl rfl rfl (HC2.out _ (by assumption)) ?_ | refine wpList_load_at 86 (.tmp 85) rfl Tryz.underlying86 rfl Hi7.out rfl rfl rfl (HC9.out _ (by assumption)) ?_)
              refine Calls.mono (i_fits D X.target _ f1 V1 (HE.out _ (HwV.out _ hV)) HBE.out.1 x.right.length) ?_
              rintro en w7 ⟨rfl, hb⟩
              have hB7 : Below (wr.heap.size + 1) V1 w7 := below_step hV hn1 hb
              clear hb
              cases hq7 : fitsE D X.target x.right.length
              · have Hbad : Hid (validRul D x = false) := hide (by rw [Hp4.out, all_bad HX.out (by unfold conOk; simp [hq7])])
                go_wp2_with fail
                go_ret
                exact ⟨ret_bool Hbad.out.symm, Hw.out _ (HwV.out _ hB7)⟩
              go_wp2_with (first | refine wpList_load_at 86 (.tmp 79) rfl Tryz.underlying86 rfl Hi7.out rfl rfl rfl (HC2.out _ (by assumption)) ?_ | refine wpList_load_at 86 (.tmp 85) rfl Tryz.underlying86 rfl Hi7.out rfl rfl rfl (HC9.out _ (by assumption)) ?_)
              refine Calls.mono (i_fits D X.value _ f2 w7 (HE2.out _ (HwV.out _ hB7)) HBE.out.2 x.right.length) ?_
              rintro en w8 ⟨rfl, hb⟩
              have hB8 : Below (wr.heap.size + 1) V1 w8 := below_step hB7 hn1 hb
              clear hb
              cases hq8 : fitsE D X.value x.right.length
              · have Hbad : Hid (validRul D x = false) := hide (by rw [Hp4.out, all_bad HX.out (by unfold conOk; simp [hq8])])
                go_wp2_with fail
                go_ret
                exact ⟨ret_bool Hbad.out.symm, Hw.out _ (HwV.out _ hB8)⟩
              go_wp2_with (first | refine wpList_load_at 86 (.tmp 79) rfl Tryz.underlying86 rfl Hi7.out rfl rfl rfl (HC2.out _ (by assumption)) ?_ | refine wpList_load_at 86 (.tmp 85) rfl Tryz.underlying86 rfl Hi7.out rfl rfl rfl (HC9.out _ (by assumption)) ?_)
              refine Calls.mono (i_validB X.symbol w8 HS.out) ?_
              rintro en w9 ⟨rfl, hb⟩
              have hB9 : Below (wr.heap.size + 1) V1 w9 := below_step hB8 hn1 hb
              clear hb
              cases hq9 : validN X.symbol
              · have Hbad : Hid (validRul D x = false) := hide (by rw [Hp4.out, all_bad HX.out (by unfold conOk; simp [hq9])])
                go_wp2_with fail
                go_ret
                exact ⟨ret_bool Hbad.out.symm, Hw.out _ (HwV.out _ hB9)⟩
              go_wp2_with (first | refine wpList_load_at 86 (.tmp 79) rfl Tryz.underlying86 rfl Hi7.out rfl rfl rfl (HC2.out _ (by assumption)) ?_ | refine wpList_load_at 86 (.tmp 85) rfl Tryz.underlying86 rfl Hi7.out rfl rfl rfl (HC9.out _ (by assumption)) ?_)
              refine Calls.mono (i_validB X.name w9 HN.out) ?_
              rintro en w10 ⟨rfl, hb⟩
              have hB10 : Below (wr.heap.size + 1) V1 w10 := below_step hB9 hn1 hb
              clear hb
              cases hq10 : validN X.name
              · have Hbad : Hid (validRul D x = false) := hide (by rw [Hp4.out, all_bad HX.out (by unfold conOk; simp [hq10])])
                go_wp2_with fail
                go_ret
                exact ⟨ret_bool Hbad.out.symm, Hw.out _ (HwV.out _ hB10)⟩
              have Hs := hide (all_step (f := conOk D x.right.length) HX.out Hall.out (by unfold conOk; simp [hq7, hq8, hq9, hq10]))
              have HBk := hide (HwV.out _ hB10)
              clear hq7 hq8 hq9 hq10
              go_wp2_with fail
              go_roundw
              case rel => exact ⟨j + 1, by omega, by go_num, Hs, HBk⟩
              case measure => simp [intOf]; omega
            · have hjl : j = x.cons.length := by omega
              subst hjl
              have Hgood : Hid (validRul D x = true) := hide (by have h := Hall.out; rw [List.take_length] at h; rw [Hp4.out, h])
              go_wp2_with fail
              go_ret
              exact ⟨ret_bool Hgood.out.symm, Hw.out _ Hb.out⟩
set_option maxHeartbeats 4000000 in
theorem s_IsValidRule (D : Nat) (x : Rul) (cs : List Value) (F : List Nat) (w : World) (h : RulR D w x cs F) (hbk : bulkRul D x ≤ 1048576) :
    Calls Tryz.prog 30 #[.agg cs.toArray] w fun en w' => en = .returned (.bool (validRul D x)) ∧ Below w.heap.size w w' := by
  obtain ⟨p0, p1, p2, p3, p4, p5, rfl⟩ := list_6 ((RulR.good D).len h)
  obtain ⟨v2, F2, v4, F4, v5, F5, hl, hok, h0, h1, ⟨h2, g2⟩, h3, ⟨h4, g4⟩, ⟨h5, g5⟩, rfl⟩ := h
  obtain rfl := Option.some.inj h0
  obtain rfl := Option.some.inj h1
  obtain rfl := Option.some.inj h2
  obtain rfl := Option.some.inj h3
  obtain rfl := Option.some.inj h4
  obtain rfl := Option.some.inj h5
  obtain ⟨A2, c2, rfl, hc2, hm2⟩ := g2.form
  obtain ⟨A4, c4, rfl, hc4, hm4⟩ := g4.form
  obtain ⟨A5, c5, rfl, hc5, hm5⟩ := g5.form
  have hsx := hide (g2.strs).2
  have Hz0 := hide hok.name
  have Hz1 := hide hok.left
  unfold maxLen at hm2 hm4 hm5
  have Lg2 := hide (g2.lt (StrR.good D))
  have Hg2 : Hid (∀ W : World, Below w.heap.size w W → SlR 1 (StrR D) W x.right (.slice A2 x.right.length c2) F2) := hide fun W hW => g2.below (StrR.good D) hW Lg2.out
  have Lg4 := hide (g4.lt (EqnR.good D))
  have Hg4 : Hid (∀ W : World, Below w.heap.size w W → SlR 9 (EqnR D) W x.eqs (.slice A4 x.eqs.length c4) F4) := hide fun W hW => g4.below (EqnR.good D) hW Lg4.out
  have Lg5 := hide (g5.lt (ConR.good D))
  have Hg5 : Hid (∀ W : World, Below w.heap.size w W → SlR 16 (ConR D) W x.cons (.slice A5 x.cons.length c5) F5) := hide fun W hW => g5.below (ConR.good D) hW Lg5.out
  have HbE : Hid (∀ q ∈ x.eqs, bulkE D q.expr ≤ 1048576) := hide fun q hq => by
    have h1 := sumBy_mem (bulkEqn_nonneg D) hq
    have h2 := bulkS_nonneg x.right
    have h3 := sumBy_nonneg (bulkCon_nonneg D) x.cons
    have h4 : bulkE D q.expr ≤ bulkEqn D q := by unfold bulkEqn bulkOcc; omega
    unfold bulkRul at hbk
    omega
  have HbC : Hid (∀ q ∈ x.cons, bulkE D q.target ≤ 1048576 ∧ bulkE D q.value ≤ 1048576) := hide fun q hq => by
    have h1 := sumBy_mem (bulkCon_nonneg D) hq
    have h2 := bulkS_nonneg x.right
    have h3 := sumBy_nonneg (bulkEqn_nonneg D) x.eqs
    have h4 := bulkE_nonneg D q.target
    have h5 := bulkE_nonneg D q.value
    have h6 : bulkE D q.target + bulkE D q.value ≤ bulkCon D q := by unfold bulkCon; omega
    unfold bulkRul at hbk
    omega
  have C := CellsAt.new w [.string x.name, .string x.left, .slice A2 x.right.length c2, .bool x.lit, .slice A4 x.eqs.length c4, .slice A5 x.cons.length c5] 50
  have hz0 := World.size_alloc w (Obj.cells #[.string x.name, .string x.left, .slice A2 x.right.length c2, .bool x.lit, .slice A4 x.eqs.length c4, .slice A5 x.cons.length c5] 50)
  have hw0 : Below w.heap.size w (w.alloc (Obj.cells #[.string x.name, .string x.left, .slice A2 x.right.length c2, .bool x.lit, .slice A4 x.eqs.length c4, .slice A5 x.cons.length c5] 50)) := (Below.refl _ _).alloc (Nat.le_refl _) _
  show Calls _ _ #[.agg #[.string x.name, .string x.left, .slice A2 x.right.length c2, .bool x.lit, .slice A4 x.eqs.length c4, .slice A5 x.cons.length c5]] w _
  clear g2 g4 g5 hl h0 h1 h2 h3 h4 h5 hbk hok
  have hlr : x.right.length ≤ 9223372036854775807 := by omega
  have hle : x.eqs.length ≤ 9223372036854775807 := by omega
  have hlc : x.cons.length ≤ 9223372036854775807 := by omega
  clear hc2 hm2 hc4 hm4 hc5 hm5
  go_enter Tryz.func30, Tryz.ntmps30
  go_wp2_with fail
  generalize w.alloc (Obj.cells #[.string x.name, .string x.left, .slice A2 x.right.length c2, .bool x.lit, .slice A4 x.eqs.length c4, .slice A5 x.cons.length c5] 50) = W0 at C hz0 hw0 ⊢
  have hn0 : (w.heap.size + 1) ≤ W0.heap.size := by omega
  have Hw : Hid (∀ W : World, Below (w.heap.size + 1) W0 W → Below w.heap.size w W) := hide fun W h => hw0.trans (h.mono (by omega))
  have hB0 : Below (w.heap.size + 1) W0 W0 := Below.refl _ _
  have e0 := cell_rule C (n := (w.heap.size + 1)) (by omega) 0 rfl
  have e1 := cell_rule C (n := (w.heap.size + 1)) (by omega) 1 rfl
  have e2 := cell_rule C (n := (w.heap.size + 1)) (by omega) 2 rfl
  have e3 := cell_rule C (n := (w.heap.size + 1)) (by omega) 3 rfl
  have e4 := cell_rule C (n := (w.heap.size + 1)) (by omega) 4 rfl
  have e5 := cell_rule C (n := (w.heap.size + 1)) (by omega) 5 rfl
  clear C hz0 hw0
  refine Calls.mono (s_IsValidName x.name W0 Hz0.out) ?_
  rintro en w1 ⟨rfl, hb⟩
  have hB1 : Below (w.heap.size + 1) W0 w1 := below_step hB0 hn0 hb
  clear hb
  cases hq1 : validN x.name
  · have Hbad : Hid (validRul D x = false) := hide (by unfold validRul; rw [hq1]; rfl)
    go_wp2_with fail
    go_ret
    exact ⟨ret_bool Hbad.out.symm, Hw.out _ hB1⟩
  go_wp2_with fail
  refine Calls.mono (s_IsValidName x.left w1 Hz1.out) ?_
  rintro en w2 ⟨rfl, hb⟩
  have hB2 : Below (w.heap.size + 1) W0 w2 := below_step hB1 hn0 hb
  clear hb
  cases hq2 : validN x.left
  · have Hbad : Hid (validRul D x = false) := hide (by unfold validRul; rw [hq1, hq2]; rfl)
    go_wp2_with fail
    go_ret
    exact ⟨ret_bool Hbad.out.symm, Hw.out _ hB2⟩
  have Hp : Hid (validRul D x = (!decide (3 < x.right.length) && !decide (2 < x.cons.length) && x.right.all validN && x.eqs.all (eqnOk D x.right.length) && x.cons.all (conOk D x.right.length))) := hide (by unfold validRul; rw [hq1, hq2]; rfl)
  clear hq1 hq2
  by_cases t2 : (3 : Int) < (x.right.length : Int)
  · have Hbad : Hid (validRul D x = false) := hide (by rw [Hp.out]; have : decide (3 < x.right.length) = true := by simp; omega
                                                       rw [this]; rfl)
    go_wp2_with fail
    go_ret
    exact ⟨ret_bool Hbad.out.symm, Hw.out _ hB2⟩
  by_cases t3 : (2 : Int) < (x.cons.length : Int)
  · have Hbad : Hid (validRul D x = false) := hide (by rw [Hp.out]; have : decide (2 < x.cons.length) = true := by simp; omega
                                                       rw [this]; simp)
    go_wp2_with fail
    go_ret
    exact ⟨ret_bool Hbad.out.symm, Hw.out _ hB2⟩
  have Hp2 : Hid (validRul D x = (x.right.all validN && x.eqs.all (eqnOk D x.right.length) && x.cons.all (conOk D x.right.length))) := hide (by
    have h1 : decide (3 < x.right.length) = false := by simp; omega
    have h2 : decide (2 < x.cons.length) = false := by simp; omega
    rw [Hp.out, h1, h2]; rfl)
  go_wp2_with fail
  go_loopw [4] (fun i wr => ∃ j : Nat, j ≤ x.right.length ∧ i = .int .i64 j ∧ Hid ((x.right.take j).all validN = true) ∧ Hid (Below (w.heap.size + 1) W0 wr)) (fun i _ => x.right.length - (intOf i).toNat)
  case atStart => exact ⟨0, by omega, rfl, hide rfl, hide hB2⟩
  case round =>
    obtain ⟨j, hj, rfl, Hall, Hb⟩ := hrel
    have hBr := Hb.out
    clear hB2
    by_cases hlt : j < x.right.length
    · have hX : x.right[j]? = some x.right[j] := List.getElem?_eq_getElem hlt
      generalize x.right[j] = X at hX
      obtain ⟨b, off, cs, Fk, hA, _, hbF, hFk, hcl, hcat, hR⟩ := SlR.get (StrR.good D) (Hg2.out W0 (Hw.out W0 hB0)) hX
      subst hA
      obtain ⟨rfl, hXs, _⟩ := hR
      have hltA : b < (w.heap.size + 1) := Nat.lt_of_lt_of_le (Lg2.out b hbF) (by omega)
      have p0 : ∀ W : World, Below (w.heap.size + 1) W0 W → W.cell? ⟨b, off + j, none⟩ = some (.string X) := fun W h => by
        have := (hcat.below h hltA) 0 _ rfl
        rwa [Nat.mul_one, Nat.add_zero] at this
      have HX := hide hX
      have HXs := hide hXs
      have hj0 : (0 : Int) ≤ (j : Int) := by omega
      have hj1 : (j : Int) < (x.right.length : Int) := by omega
      clear hX hcat hFk hbF hcl hXs
      go_wp2_with fail
      refine Calls.mono (s_IsValidName X wr HXs.out) ?_
      rintro en w3 ⟨rfl, hb⟩
      have hB3 : Below (w.heap.size + 1) W0 w3 := below_step hBr hn0 hb
      clear hb
      cases hq3 : validN X
      · have Hbad : Hid (validRul D x = false) := hide (by rw [Hp2.out, all_bad HX.out hq3]; rfl)
        go_wp2_with fail
        go_ret
        exact ⟨ret_bool Hbad.out.symm, Hw.out _ hB3⟩
      have Hs := hide (all_step HX.out Hall.out hq3)
      have HBk := hide hB3
      clear hq3
      go_wp2_with fail
      go_roundw
      case rel => exact ⟨j + 1, by omega, by go_num, Hs, HBk⟩
      case measure => simp [intOf]; omega
    · have hjl : j = x.right.length := by omega
      subst hjl
      have Hp3 : Hid (validRul D x = (x.eqs.all (eqnOk D x.right.length) && x.cons.all (conOk D x.right.length))) := hide (by have h := Hall.out; rw [List.take_length] at h; rw [Hp2.out, h]; rfl)
      clear hlt Hall
      obtain ⟨W1, hW1⟩ : ∃ W, W = wr := ⟨_, rfl⟩
      subst hW1
      go_wp2_with fail
      go_loopw [5] (fun i wr => ∃ j : Nat, j ≤ x.eqs.length ∧ i = .int .i64 j ∧ Hid ((x.eqs.take j).all (eqnOk D x.right.length) = true) ∧ Hid (Below (w.heap.size + 1) W0 wr)) (fun i _ => x.eqs.length - (intOf i).toNat)
      case atStart => exact ⟨0, by omega, rfl, hide rfl, Hb⟩
      case round =>
        obtain ⟨j, hj, rfl, Hall, Hb⟩ := hrel
        have hBr := Hb.out
        by_cases hlt : j < x.eqs.length
        · have hX : x.eqs[j]? = some x.eqs[j] := List.getElem?_eq_getElem hlt
          generalize x.eqs[j] = X at hX
          obtain ⟨b, off, cs, Fk, hA, _, hbF, hFk, hcl, hcat, hR⟩ := SlR.get (EqnR.good D) (Hg4.out W0 (Hw.out W0 hB0)) hX
          subst hA
          have H1 := hide (EqnR.one hR)
          have hltA : b < (w.heap.size + 1) := Nat.lt_of_lt_of_le (Lg4.out b hbF) (by omega)
          have HF : Hid (∀ k ∈ Fk, k < (w.heap.size + 1)) := hide fun k hk => Nat.lt_of_lt_of_le (Lg4.out k (hFk k hk)) (by omega)
          obtain ⟨a0, a1, a2, a3, a4, a5, a6, a7, a8, rfl⟩ := list_9 hcl
          obtain ⟨f0, f1, _, hO, hE, hFF⟩ := hR
          obtain ⟨_, hOk, r0, r1, _⟩ := hO
          obtain rfl : a0 = .int .i64 X.at_.pos := by simpa using r0
          obtain rfl : a1 = .string X.at_.name := by simpa using r1
          have HE : Hid (∀ W : World, Below (w.heap.size + 1) W0 W → ExR D W X.expr [a2, a3, a4, a5, a6, a7, a8] f1) := hide fun W h => (ExR.good D).below hE h (fun k hk => HF.out k (by rw [hFF]; simp [hk]))
          have HX := hide hX
          have HN := hide hOk.name
          have HBE := hide (HbE.out X (List.mem_of_getElem? hX))
          have Hc : Hid (CellsAt wr b (off + j * 9) [.int .i64 X.at_.pos, .string X.at_.name, a2, a3, a4, a5, a6, a7, a8]) := hide (hcat.below hBr hltA)
          have hi : (Tryz.prog.info? 88).map (·.size) = some 9 := by kernel_rfl
          have hi7 : (Tryz.prog.info? 86).map (·.size) = some 7 := by kernel_rfl
          have Hi := hide hi
          have Hi7 := hide hi7
          have Hn : Hid ([.int .i64 X.at_.pos, .string X.at_.name, a2, a3, a4, a5, a6, a7, a8].length = 9) := hide rfl
          have hj0 : (0 : Int) ≤ (j : Int) := by omega
          have hj1 : (j : Int) < (x.eqs.length : Int) := by omega
          clear hX hcat hFk hbF hcl hE r0 r1 hFF hi hi7 hOk
          go_wp2_with (first
            | refine wpList_load_at 88 (.tmp 54) rfl Tryz.underlying88 rfl Hi.out rfl rfl Hn.out Hc.out ?_
            | (refine wpList_store_new 88 (.tmp 6) (.tmp 55) rfl Hi.out rfl rfl rfl rfl Hn.out H1.out rfl ?_; refine hold ?_))
          have C := CellsAt.new wr [.int .i64 X.at_.pos, .string X.at_.name, a2, a3, a4, a5, a6, a7, a8] 88
          have hz := World.size_alloc wr (Obj.cells #[.int .i64 X.at_.pos, .string X.at_.name, a2, a3, a4, a5, a6, a7, a8] 88)
          have hwv : Below (w.heap.size + 1) W0 (wr.alloc (Obj.cells #[.int .i64 X.at_.pos, .string X.at_.name, a2, a3, a4, a5, a6, a7, a8] 88)) := hBr.alloc (Nat.le_trans hn0 hBr.size) _
          generalize wr.alloc (Obj.cells #[.int .i64 X.at_.pos, .string X.at_.name, a2, a3, a4, a5, a6, a7, a8] 88) = V1 at C hz hwv ⊢
          have hn1 : (wr.heap.size + 1) ≤ V1.heap.size := by omega
          have hsz := hBr.size
          have HwV : Hid (∀ W : World, Below (wr.heap.size + 1) V1 W → Below (w.heap.size + 1) W0 W) := hide fun W h => hwv.trans (h.mono (by omega))
          have hV : Below (wr.heap.size + 1) V1 V1 := Below.refl _ _
          have c0 := cell_rule C (n := (wr.heap.size + 1)) (by omega) 0 (v := .int .i64 X.at_.pos) rfl
          have c1 := cell_rule C (n := (wr.heap.size + 1)) (by omega) 1 (v := .string X.at_.name) rfl
          have HC2 : Hid (∀ W : World, Below (wr.heap.size + 1) V1 W → CellsAt W wr.heap.size 2 [a2, a3, a4, a5, a6, a7, a8]) := hide fun W h i v hv => by have := (C.below h (by omega)) (2 + i) v (by simpa [Nat.add_comm] using hv); rwa [Nat.zero_add] at this
          have d0 : ∀ W : World, Below (wr.heap.size + 1) V1 W → _ := fun W h => e0 W (HwV.out W h)
          have d1 : ∀ W : World, Below (wr.heap.size + 1) V1 W → _ := fun W h => e1 W (HwV.out W h)
          have d2 : ∀ W : World, Below (wr.heap.size + 1) V1 W → _ := fun W h => e2 W (HwV.out W h)
          have d3 : ∀ W : World, Below (wr.heap.size + 1) V1 W → _ := fun W h => e3 W (HwV.out W h)
          have d4 : ∀ W : World, Below (wr.heap.size + 1) V1 W → _ := fun W h => e4 W (HwV.out W h)
          have d5 : ∀ W : World, Below (wr.heap.size + 1) V1 W → _ := fun W h => e5 W (HwV.out W h)
          clear C hz hwv hsz e0 e1 e2 e3 e4 e5
          refine Hold.go ?_
          go_wp2_with (refine wpList_load_at 86 (.tmp 70) rfl Tryz.underlying86 rfl Hi7.out rfl rfl rfl (HC2.out _ (by assumption)) ?_)
          refine Calls.mono (s_IsValidName X.at_.name V1 HN.out) ?_
          rintro en w4 ⟨rfl, hb⟩
          have hB4 : Below (wr.heap.size + 1) V1 w4 := below_step hV hn1 hb
          clear hb
          cases hq4 : validN X.at_.name
          · have Hbad : Hid (validRul D x = false) := hide (by rw [Hp3.out, all_bad HX.out (by unfold eqnOk; simp [hq4])]; rfl)
            go_wp2_with fail
            go_ret
            exact ⟨ret_bool Hbad.out.symm, Hw.out _ (HwV.out _ hB4)⟩
          go_wp2_with (refine wpList_load_at 86 (.tmp 70) rfl Tryz.underlying86 rfl Hi7.out rfl rfl rfl (HC2.out _ (by assumption)) ?_)
          refine Calls.mono (s_inB X.at_.pos 0 x.right.length w4) ?_
          rintro en w5 ⟨rfl, hb⟩
          have hB5 : Below (wr.heap.size + 1) V1 w5 := below_step hB4 hn1 hb
          clear hb
          cases hq5 : inR X.at_.pos 0 x.right.length
          · have Hbad : Hid (validRul D x = false) := hide (by rw [Hp3.out, all_bad HX.out (by unfold eqnOk; simp [hq5])]; rfl)
            go_wp2_with fail
            go_ret
            exact ⟨ret_bool Hbad.out.symm, Hw.out _ (HwV.out _ hB5)⟩
          go_wp2_with (refine wpList_load_at 86 (.tmp 70) rfl Tryz.underlying86 rfl Hi7.out rfl rfl rfl (HC2.out _ (by assumption)) ?_)
          refine Calls.mono (s_l9Expr D X.expr _ f1 w5 (HE.out _ (HwV.out _ hB5)) HBE.out x.right.length) ?_
          rintro en w6 ⟨rfl, hb⟩
          have hB6 : Below (wr.heap.size + 1) V1 w6 := below_step hB5 hn1 hb
          clear hb
          cases hq6 : fitsE D X.expr x.right.length
          · have Hbad : Hid (validRul D x = false) := hide (by rw [Hp3.out, all_bad HX.out (by unfold eqnOk; simp [hq6])]; rfl)
            go_wp2_with fail
            go_ret
            exact ⟨ret_bool Hbad.out.symm, Hw.out _ (HwV.out _ hB6)⟩
          have Hs := hide (all_step (f := eqnOk D x.right.length) HX.out Hall.out (by unfold eqnOk; simp [hq4, hq5, hq6]))
          have HBk := hide (HwV.out _ hB6)
          clear hq4 hq5 hq6
          go_wp2_with fail
          go_roundw
          case rel => exact ⟨j + 1, by omega, by go_num, Hs, HBk⟩
          case measure => simp [intOf]; omega
        · have hjl : j = x.eqs.length := by omega
          subst hjl
          have Hp4 : Hid (validRul D x = x.cons.all (conOk D x.right.length)) := hide (by have h := Hall.out; rw [List.take_length] at h; rw [Hp3.out, h]; rfl)
          clear hlt Hall
          obtain ⟨W2, hW2⟩ : ∃ W, W = wr := ⟨_, rfl⟩
          subst hW2
          go_wp2_with fail
          go_loopw [7] (fun i wr => ∃ j : Nat, j ≤ x.cons.length ∧ i = .int .i64 j ∧ Hid ((x.cons.take j).all (conOk D x.right.length) = true) ∧ Hid (Below (w.heap.size + 1) W0 wr)) (fun i _ => x.cons.length - (intOf i).toNat)
          case atStart => exact ⟨0, by omega, rfl, hide rfl, Hb⟩
          case round =>
            obtain ⟨j, hj, rfl, Hall, Hb⟩ := hrel
            have hBr := Hb.out
            by_cases hlt : j < x.cons.length
            · have hX : x.cons[j]? = some x.cons[j] := List.getElem?_eq_getElem hlt
              generalize x.cons[j] = X at hX
              obtain ⟨b, off, cs, Fk, hA, _, hbF, hFk, hcl, hcat, hR⟩ := SlR.get (ConR.good D) (Hg5.out W0 (Hw.out W0 hB0)) hX
              subst hA
              have H1 := hide (ConR.one hR)
              have hltA : b < (w.heap.size + 1) := Nat.lt_of_lt_of_le (Lg5.out b hbF) (by omega)
              have HF : Hid (∀ k ∈ Fk, k < (w.heap.size + 1)) := hide fun k hk => Nat.lt_of_lt_of_le (Lg5.out k (hFk k hk)) (by omega)
              obtain ⟨a0, a1, a2, a3, a4, a5, a6, a7, a8, a9, a10, a11, a12, a13, a14, a15, rfl⟩ := list_16 hcl
              obtain ⟨f1, f2, _, hOk, r0, r1, hE, hE2, hFF⟩ := hR
              obtain rfl : a0 = .string X.symbol := by simpa using r0
              obtain rfl : a1 = .string X.name := by simpa using r1
              have HE : Hid (∀ W : World, Below (w.heap.size + 1) W0 W → ExR D W X.target [a2, a3, a4, a5, a6, a7, a8] f1) := hide fun W h => (ExR.good D).below hE h (fun k hk => HF.out k (by rw [hFF]; simp [hk]))
              have HE2 : Hid (∀ W : World, Below (w.heap.size + 1) W0 W → ExR D W X.value [a9, a10, a11, a12, a13, a14, a15] f2) := hide fun W h => (ExR.good D).below hE2 h (fun k hk => HF.out k (by rw [hFF]; simp [hk]))
              have HX := hide hX
              have HS := hide hOk.symbol
              have HN := hide hOk.name
              have HBE := hide (HbC.out X (List.mem_of_getElem? hX))
              have Hc : Hid (CellsAt wr b (off + j * 16) [.string X.symbol, .string X.name, a2, a3, a4, a5, a6, a7, a8, a9, a10, a11, a12, a13, a14, a15]) := hide (hcat.below hBr hltA)
              have hi : (Tryz.prog.info? 107).map (·.size) = some 16 := by kernel_rfl
              have hi7 : (Tryz.prog.info? 86).map (·.size) = some 7 := by kernel_rfl
              have Hi := hide hi
              have Hi7 := hide hi7
              have Hn : Hid ([.string X.symbol, .string X.name, a2, a3, a4, a5, a6, a7, a8, a9, a10, a11, a12, a13, a14, a15].length = 16) := hide rfl
              have hj0 : (0 : Int) ≤ (j : Int) := by omega
              have hj1 : (j : Int) < (x.cons.length : Int) := by omega
              clear hX hcat hFk hbF hcl hE hE2 r0 r1 hFF hi hi7 hOk
              go_wp2_with (first
                | refine wpList_load_at 107 (.tmp 86) rfl Tryz.underlying107 rfl Hi.out rfl rfl Hn.out Hc.out ?_
                | (refine wpList_store_new 107 (.tmp 8) (.tmp 87) rfl Hi.out rfl rfl rfl rfl Hn.out H1.out rfl ?_; refine hold ?_))
              have C := CellsAt.new wr [.string X.symbol, .string X.name, a2, a3, a4, a5, a6, a7, a8, a9, a10, a11, a12, a13, a14, a15] 107
              have hz := World.size_alloc wr (Obj.cells #[.string X.symbol, .string X.name, a2, a3, a4, a5, a6, a7, a8, a9, a10, a11, a12, a13, a14, a15] 107)
              have hwv : Below (w.heap.size + 1) W0 (wr.alloc (Obj.cells #[.string X.symbol, .string X.name, a2, a3, a4, a5, a6, a7, a8, a9, a10, a11, a12, a13, a14, a15] 107)) := hBr.alloc (Nat.le_trans hn0 hBr.size) _
              generalize wr.alloc (Obj.cells #[.string X.symbol, .string X.name, a2, a3, a4, a5, a6, a7, a8, a9, a10, a11, a12, a13, a14, a15] 107) = V1 at C hz hwv ⊢
              have hn1 : (wr.heap.size + 1) ≤ V1.heap.size := by omega
              have hsz := hBr.size
              have HwV : Hid (∀ W : World, Below (wr.heap.size + 1) V1 W → Below (w.heap.size + 1) W0 W) := hide fun W h => hwv.trans (h.mono (by omega))
              have hV : Below (wr.heap.size + 1) V1 V1 := Below.refl _ _
              have c0 := cell_rule C (n := (wr.heap.size + 1)) (by omega) 0 (v := .string X.symbol) rfl
              have c1 := cell_rule C (n := (wr.heap.size + 1)) (by omega) 1 (v := .string X.name) rfl
              have HC2 : Hid (∀ W : World, Below (wr.heap.size + 1) V1 W → CellsAt W wr.heap.size 2 [a2, a3, a4, a5, a6, a7, a8]) := hide fun W h i v hv => by have := (C.below h (by omega)) (2 + i) v (by have hi := (List.getElem?_eq_some_iff.1 hv).1; simp at hi; match i, hi with | 0, _ => exact hv | 1, _ => exact hv | 2, _ => exact hv | 3, _ => exact hv | 4, _ => exact hv | 5, _ => exact hv | 6, _ => exact hv | i + 7, hi => omega); rwa [Nat.zero_add] at this
              have HC9 : Hid (∀ W : World, Below (wr.heap.size + 1) V1 W → CellsAt W wr.heap.size 9 [a9, a10, a11, a12, a13, a14, a15]) := hide fun W h i v hv => by have := (C.below h (by omega)) (9 + i) v (by simpa [Nat.add_comm] using hv); rwa [Nat.zero_add] at this
              have d0 : ∀ W : World, Below (wr.heap.size + 1) V1 W → _ := fun W h => e0 W (HwV.out W h)
              have d1 : ∀ W : World, Below (wr.heap.size + 1) V1 W → _ := fun W h => e1 W (HwV.out W h)
              have d2 : ∀ W : World, Below (wr.heap.size + 1) V1 W → _ := fun W h => e2 W (HwV.out W h)
              have d3 : ∀ W : World, Below (wr.heap.size + 1) V1 W → _ := fun W h => e3 W (HwV.out W h)
              have d4 : ∀ W : World, Below (wr.heap.size + 1) V1 W → _ := fun W h => e4 W (HwV.out W h)
              have d5 : ∀ W : World, Below (wr.heap.size + 1) V1 W → _ := fun W h => e5 W (HwV.out W h)
              clear C hz hwv hsz e0 e1 e2 e3 e4 e5
              refine Hold.go ?_
              go_wp2_with (first | refine wpList_load_at 86 (.tmp 99) rfl Tryz.underlying86 rfl Hi7.out rfl rfl rfl (HC2.out _ (by assumption)) ?_ | refine wpList_load_at 86 (.tmp 106) rfl Tryz.underlying86 rfl Hi7.out rfl rfl rfl (HC9.out _ (by assumption)) ?_)
              refine Calls.mono (s_IsValidName X.symbol V1 HS.out) ?_
              rintro en w7 ⟨rfl, hb⟩
              have hB7 : Below (wr.heap.size + 1) V1 w7 := below_step hV hn1 hb
              clear hb
              cases hq7 : validN X.symbol
              · have Hbad : Hid (validRul D x = false) := hide (by rw [Hp4.out, all_bad HX.out (by unfold conOk; simp [hq7])])
                go_wp2_with fail
                go_ret
                exact ⟨ret_bool Hbad.out.symm, Hw.out _ (HwV.out _ hB7)⟩
              go_wp2_with (first | refine wpList_load_at 86 (.tmp 99) rfl Tryz.underlying86 rfl Hi7.out rfl rfl rfl (HC2.out _ (by assumption)) ?_ | refine wpList_load_at 86 (.tmp 106) rfl Tryz.underlying86 rfl Hi7.out rfl rfl rfl (HC9.out _ (by assumption)) ?_)
              refine Calls.mono (s_IsValidName X.name w7 HN.out) ?_
              rintro en w8 ⟨rfl, hb⟩
              have hB8 : Below (wr.heap.size + 1) V1 w8 := below_step hB7 hn1 hb
              clear hb
              cases hq8 : validN X.name
              · have Hbad : Hid (validRul D x = false) := hide (by rw [Hp4.out, all_bad HX.out (by unfold conOk; simp [hq8])])
                go_wp2_with fail
                go_ret
                exact ⟨ret_bool Hbad.out.symm, Hw.out _ (HwV.out _ hB8)⟩
              go_wp2_with (first | refine wpList_load_at 86 (.tmp 99) rfl Tryz.underlying86 rfl Hi7.out rfl rfl rfl (HC2.out _ (by assumption)) ?_ | refine wpList_load_at 86 (.tmp 106) rfl Tryz.underlying86 rfl Hi7.out rfl rfl rfl (HC9.out _ (by assumption)) ?_)
              refine Calls.mono (s_l9Expr D X.target _ f1 w8 (HE.out _ (HwV.out _ hB8)) HBE.out.1 x.right.length) ?_
              rintro en w9 ⟨rfl, hb⟩
              have hB9 : Below (wr.heap.size + 1) V1 w9 := below_step hB8 hn1 hb
              clear hb
              cases hq9 : fitsE D X.target x.right.length
              · have Hbad : Hid (validRul D x = false) := hide (by rw [Hp4.out, all_bad HX.out (by unfold conOk; simp [hq9])])
                go_wp2_with fail
                go_ret
                exact ⟨ret_bool Hbad.out.symm, Hw.out _ (HwV.out _ hB9)⟩
              go_wp2_with (first | refine wpList_load_at 86 (.tmp 99) rfl Tryz.underlying86 rfl Hi7.out rfl rfl rfl (HC2.out _ (by assumption)) ?_ | refine wpList_load_at 86 (.tmp 106) rfl Tryz.underlying86 rfl Hi7.out rfl rfl rfl (HC9.out _ (by assumption)) ?_)
              refine Calls.mono (s_l9Expr D X.value _ f2 w9 (HE2.out _ (HwV.out _ hB9)) HBE.out.2 x.right.length) ?_
              rintro en w10 ⟨rfl, hb⟩
              have hB10 : Below (wr.heap.size + 1) V1 w10 := below_step hB9 hn1 hb
              clear hb
              cases hq10 : fitsE D X.value x.right.length
              · have Hbad : Hid (validRul D x = false) := hide (by rw [Hp4.out, all_bad HX.out (by unfold conOk; simp [hq10])])
                go_wp2_with fail
                go_ret
                exact ⟨ret_bool Hbad.out.symm, Hw.out _ (HwV.out _ hB10)⟩
              have Hs := hide (all_step (f := conOk D x.right.length) HX.out Hall.out (by unfold conOk; simp [hq7, hq8, hq9, hq10]))
              have HBk := hide (HwV.out _ hB10)
              clear hq7 hq8 hq9 hq10
              go_wp2_with fail
              go_roundw
              case rel => exact ⟨j + 1, by omega, by go_num, Hs, HBk⟩
              case measure => simp [intOf]; omega
            · have hjl : j = x.cons.length := by omega
              subst hjl
              have Hgood : Hid (validRul D x = true) := hide (by have h := Hall.out; rw [List.take_length] at h; rw [Hp4.out, h])
              go_wp2_with fail
              go_ret
              exact ⟨ret_bool Hgood.out.symm, Hw.out _ Hb.out⟩
end Go.Proofs.YthlhhnnlbpecnaaGreat
