/- Several texts of one proof in one file: Expressions of a rule: positions within a bound; both sides. Conditions: each theorem names its own. -/
import Derived.Test.YthlhhnnlbpecnaaGreatGcsao

/- Expressions of a rule: positions within a bound; both sides. Conditions: the expression has at most the size 2^20. -/
namespace Go.Proofs.YthlhhnnlbpecnaaGreat
set_option linter.unusedSimpArgs false
set_option linter.unusedVariables false
set_option maxRecDepth 100000
open Go.RowKit Go.WideShapes
set_option linter.unusedVariables false

def posLe (nn : Int) (e : Ex) : Bool := decide (e.h.pos ≤ nn)
theorem i_posLe (nn : Int) (Bn : Nat) {d : Nat} (e : Ex) (cs : List Value) (F : List Nat) (w : World) (h : ExR d w e cs F) (hn : w.cell? ⟨Bn, 0, none⟩ = some (.int .i64 nn)) :
    Calls Tryz.prog 118 #[.agg cs.toArray, .pointer (some ⟨Bn, 0, none⟩)] w fun en w' => en = .returned (.bool (posLe nn e)) ∧ Below w.heap.size w w' := by
  match d, h with
  | d + 1, h =>
  obtain ⟨A, cap, rfl, _, _, _, _⟩ := ex_form h
  obtain ⟨⟨k, n, p, t, s, m⟩, l⟩ := e
  have hlt := cell_lt hn
  have hn2 : (w.alloc (Obj.cells #[.int .i64 k, .int .i64 n, .int .i64 p, .int .i64 t, .string s, .string m, .slice A l.length cap] 86)).cell? ⟨Bn, 0, none⟩ = some (.int .i64 nn) :=
    (((Below.refl w.heap.size w).alloc (Nat.le_refl _) _).cell (p := ⟨Bn, 0, none⟩) hlt).trans hn
  show Calls _ _ #[.agg #[.int .i64 k, .int .i64 n, .int .i64 p, .int .i64 t, .string s, .string m, .slice A l.length cap], .pointer (some ⟨Bn, 0, none⟩)] w _
  go_enter Tryz.func118, Tryz.ntmps118
  go_wp2_with fail
  go_ret
  exact ⟨rfl, (Below.refl _ _).alloc (Nat.le_refl _) _⟩

def EvN_fit (nn : Int) (d : Nat) : Prop := ∀ (e : Ex) (cs : List Value) (F : List Nat) (w : World) (Bn : Nat), ExR d w e cs F → w.cell? ⟨Bn, 0, none⟩ = some (.int .i64 nn) →
  Calls Tryz.prog 89 #[.agg cs.toArray, .func (.func 118) #[] #[.pointer (some ⟨Bn, 0, none⟩)]] w fun en w' => en = .returned (.bool (allE (posLe nn) d e)) ∧ Below w.heap.size w w'
set_option maxRecDepth 100000 in
/-- The closure: an argument that fails. -/
theorem clo_fit {d Bn : Nat} {nn : Int} (hE : EvN_fit nn d) (e : Ex) (cs : List Value) (F : List Nat) (w : World) (B : Nat) (h : ExR d w e cs F) (hc : w.cell? ⟨B, 0, none⟩ = some (.func (.func 118) #[] #[.pointer (some ⟨Bn, 0, none⟩)])) (hn : w.cell? ⟨Bn, 0, none⟩ = some (.int .i64 nn)) (hF : ∀ b ∈ F, b < w.heap.size) :
    Calls Tryz.prog 119 #[.agg cs.toArray, .pointer (some ⟨B, 0, none⟩)] w fun en w' => en = .returned (.bool !(allE (posLe nn) d e)) ∧ Below w.heap.size w w' := by
  match d, h with
  | d + 1, h =>
  obtain ⟨A, cap, rfl, hok, hl, hm, hs⟩ := ex_form h
  have HR := hide h
  have HF := hide hF
  have HE := hide hE
  have Hn := hide hn
  have Hnlt : Hid (Bn < w.heap.size) := hide (cell_lt hn)
  obtain ⟨⟨k, n, p, t, s, m⟩, l⟩ := e
  have hlt := cell_lt hc
  simp only [Ex.args, Ex.h, ExH.cells] at HR
  show Calls _ _ #[.agg #[.int .i64 k, .int .i64 n, .int .i64 p, .int .i64 t, .string s, .string m, .slice A l.length cap], .pointer (some ⟨B, 0, none⟩)] w _
  generalize Ex.mk ⟨k, n, p, t, s, m⟩ l = e at HR ⊢
  clear h hs hok hl hm hE hn
  go_enter Tryz.func119, Tryz.ntmps119
  go_wp2_with fail
  refine Calls.mono (HE.out e _ F _ Bn ((ExR.good (d + 1)).below HR.out ((Below.refl _ _).alloc (Nat.le_refl _) _) HF.out) ((((Below.refl w.heap.size w).alloc (Nat.le_refl _) _).cell (p := ⟨Bn, 0, none⟩) Hnlt.out).trans Hn.out)) ?_
  rintro en w2 ⟨rfl, hb2⟩
  have HB2 : Hid (Below w.heap.size w w2) := hide (((Below.refl _ _).alloc (Nat.le_refl _) _).trans (hb2.mono (by simp)))
  clear hb2
  go_wp2_with fail
  go_ret
  exact ⟨rfl, HB2.out⟩

/-- Does every argument fulfil it? -1, or the index of one that does not. -/
def IdxOf_fit (nn : Int) (l : List Ex) (d : Nat) (en : Ending) : Prop := (en = .returned (.int .i64 (-1)) ∧ l.all (allE (posLe nn) d) = true) ∨ ∃ r : Nat, en = .returned (.int .i64 r) ∧ l.all (allE (posLe nn) d) = false
theorem idx_fit {d Bn : Nat} {nn : Int} (hE : EvN_fit nn d) (l : List Ex) (A : Option Addr) (cap : Nat) (F : List Nat) (w : World) (B : Nat) (hs : SlR 7 (ExR d) w l (.slice A l.length cap) F) (hc : w.cell? ⟨B, 0, none⟩ = some (.func (.func 118) #[] #[.pointer (some ⟨Bn, 0, none⟩)])) (hn : w.cell? ⟨Bn, 0, none⟩ = some (.int .i64 nn)) :
    Calls Tryz.prog 88 #[.slice A l.length cap, .func (.func 119) #[] #[.pointer (some ⟨B, 0, none⟩)]] w fun en w' => IdxOf_fit nn l d en ∧ Below w.heap.size w w' := by
  have HF := hide (hs.lt (ExR.good d))
  obtain ⟨_, hlc, hm⟩ := hs.bnd
  unfold maxLen at hm
  have Hs := hide hs
  have HE := hide hE
  have hBlt := cell_lt hc
  have Hc := hide hc
  have Hn := hide hn
  have Hnlt : Hid (Bn < w.heap.size) := hide (cell_lt hn)
  clear hs hE hc hn
  go_enter Tryz.func88, Tryz.ntmps88
  go_wp2_with fail
  go_loopw [8] (fun i wr => ∃ j : Nat, j ≤ l.length ∧ i = .int .i64 j ∧ Hid ((l.take j).all (allE (posLe nn) d) = true) ∧ Hid (Below w.heap.size w wr)) (fun i _ => l.length - (intOf i).toNat)
  case atStart => exact ⟨0, by omega, rfl, hide rfl, hide (Below.refl _ _)⟩
  case round =>
    obtain ⟨j, hj, rfl, Hall, Hb⟩ := hrel
    by_cases hlt : j < l.length
    · have hx : l[j]? = some l[j] := List.getElem?_eq_getElem hlt
      generalize l[j] = x at hx
      have Hx := hide hx
      obtain ⟨b, off, A', cap', Fk, hA, hbF, hFk, _, hl', hm', hcat, hR⟩ := ex_get (Hs.out.below (ExR.good d) Hb.out HF.out) hx
      subst hA
      obtain ⟨e0, e1, e2, e3, e4, e5, e6⟩ := hcat.seven
      have hblt := Nat.lt_of_lt_of_le (HF.out b hbF) Hb.out.size
      have HR := hide hR
      have HFk : Hid (∀ i ∈ Fk, i < wr.heap.size) := hide fun i hi => Nat.lt_of_lt_of_le (HF.out i (hFk i hi)) Hb.out.size
      have Hcw : Hid (wr.cell? ⟨B, 0, none⟩ = some (.func (.func 118) #[] #[.pointer (some ⟨Bn, 0, none⟩)])) := hide ((Hb.out.cell (p := ⟨B, 0, none⟩) hBlt).trans Hc.out)
      clear hx hR hcat hFk hbF hl' hm'
      go_wp2_with fail
      refine Calls.mono (clo_fit HE.out x _ Fk _ B HR.out Hcw.out ((Hb.out.cell (p := ⟨Bn, 0, none⟩) Hnlt.out).trans Hn.out) HFk.out) ?_
      rintro en w2 ⟨rfl, hb2⟩
      have HB2 : Hid (Below w.heap.size w w2) := hide (Hb.out.trans (hb2.mono Hb.out.size))
      clear hb2
      cases hxr : allE (posLe nn) d x
      · have Hbad : Hid (l.all (allE (posLe nn) d) = false) := hide (by rw [Bool.eq_false_iff]; intro h; have := List.all_eq_true.1 h x (List.mem_of_getElem? Hx.out); rw [hxr] at this; cases this)
        clear hxr
        go_wp2_with fail
        go_ret
        exact ⟨.inr ⟨j, rfl, Hbad.out⟩, HB2.out⟩
      · have Hxr := hide hxr
        clear hxr
        go_wp2_with fail
        go_roundw
        case rel => exact ⟨j + 1, by omega, by go_num, hide (by rw [take_snoc Hx.out, List.all_append, Hall.out]; simp [Hxr.out]), HB2⟩
        case measure => simp [intOf]; omega
    · have hjl : j = l.length := by omega
      have Hall' : Hid (l.all (allE (posLe nn) d) = true) := hide (by have := Hall.out; rw [hjl, List.take_length] at this; exact this)
      go_wp2_with fail
      go_ret
      exact ⟨.inl ⟨rfl, Hall'.out⟩, Hb.out⟩
theorem con_fit {d Bn : Nat} {nn : Int} (hE : EvN_fit nn d) (l : List Ex) (A : Option Addr) (cap : Nat) (F : List Nat) (w : World) (B : Nat) (hs : SlR 7 (ExR d) w l (.slice A l.length cap) F) (hc : w.cell? ⟨B, 0, none⟩ = some (.func (.func 118) #[] #[.pointer (some ⟨Bn, 0, none⟩)])) (hn : w.cell? ⟨Bn, 0, none⟩ = some (.int .i64 nn)) :
    Calls Tryz.prog 53 #[.slice A l.length cap, .func (.func 119) #[] #[.pointer (some ⟨B, 0, none⟩)]] w fun en w' => en = .returned (.bool !(l.all (allE (posLe nn) d))) ∧ Below w.heap.size w w' := by
  have HI := hide (idx_fit hE l A cap F w B hs hc hn)
  clear hE hs hc hn
  go_enter Tryz.func53, Tryz.ntmps53
  go_wp2_with fail
  refine Calls.mono HI.out ?_
  rintro en w2 ⟨hr, hb2⟩
  have HB2 := hide hb2
  clear hb2
  rcases hr with ⟨rfl, ha⟩ | ⟨r, rfl, ha⟩
  all_goals
    have Ha := hide ha
    clear ha
    go_wp2_with fail
    go_ret
    exact ⟨ret_bool (by rw [Ha.out]; first | rfl | simp), HB2.out⟩
theorem evn_fit (nn : Int) : ∀ d, EvN_fit nn d
  | 0 => fun _ _ _ _ _ h _ => h.elim
  | d + 1 => fun e cs F w Bn h hn => by
    obtain ⟨A, cap, rfl, hok, hl, hm, hs⟩ := ex_form h
    have HF := hide (hs.lt (ExR.good d))
    have HFe := hide ((ExR.good (d + 1)).lt h)
    have H := hide h
    have Hn := hide hn
    have Hnlt : Hid (Bn < w.heap.size) := hide (cell_lt hn)
    generalize hq : allE (posLe nn) (d + 1) e = q
    have hq' : (posLe nn e && e.args.all (allE (posLe nn) d)) = q := hq
    have Hq := hide hq'
    have HP : Hid (∀ W : World, Below w.heap.size w W → Calls Tryz.prog 118 #[.agg (e.h.cells (.slice A e.args.length cap)).toArray, .pointer (some ⟨Bn, 0, none⟩)] W fun en w' => en = .returned (.bool (posLe nn e)) ∧ Below W.heap.size W w') := hide fun W hW => i_posLe nn Bn e _ F W ((ExR.good (d + 1)).below H.out hW HFe.out) ((hW.cell (p := ⟨Bn, 0, none⟩) Hnlt.out).trans Hn.out)
    obtain ⟨⟨k, n, p, t, s, m⟩, l⟩ := e
    simp only [Ex.args, Ex.h, ExH.cells] at hs hl HF HFe H Hq HP
    generalize posLe nn (Ex.mk ⟨k, n, p, t, s, m⟩ l) = pe at HP Hq
    have HS : Hid (∀ (W : World) (B : Nat), Below w.heap.size w W → W.cell? ⟨B, 0, none⟩ = some (.func (.func 118) #[] #[.pointer (some ⟨Bn, 0, none⟩)]) → Calls Tryz.prog 53 #[.slice A l.length cap, .func (.func 119) #[] #[.pointer (some ⟨B, 0, none⟩)]] W fun en w' => en = .returned (.bool !(l.all (allE (posLe nn) d))) ∧ Below W.heap.size W w') := hide fun W B hW hc =>
      con_fit (evn_fit nn d) l A cap F W B (hs.below (ExR.good d) hW HF.out) hc ((hW.cell (p := ⟨Bn, 0, none⟩) Hnlt.out).trans Hn.out)
    show Calls _ _ #[.agg #[.int .i64 k, .int .i64 n, .int .i64 p, .int .i64 t, .string s, .string m, .slice A l.length cap], .func (.func 118) #[] #[.pointer (some ⟨Bn, 0, none⟩)]] w _
    clear hs hok h hq hq' hl hm hn
    have HC := hide (CellsAt.new w [.int .i64 k, .int .i64 n, .int .i64 p, .int .i64 t, .string s, .string m, .slice A l.length cap] 86)
    have HI := hide (CellsAt.new (w.alloc (.cells #[.int .i64 k, .int .i64 n, .int .i64 p, .int .i64 t, .string s, .string m, .slice A l.length cap] 86)) [.func (.func 118) #[] #[.pointer (some ⟨Bn, 0, none⟩)]] 96)
    cases pe
    · have Hq2 : Hid (q = false) := hide (by rw [← Hq.out]; rfl)
      go_enter Tryz.func89, Tryz.ntmps89
      go_wp2_with fail
      refine Calls.mono (HP.out _ (((Below.refl _ _).alloc (Nat.le_refl _) _).alloc (by simp) _)) ?_
      rintro en w2 ⟨rfl, hb2⟩
      have HB2 : Hid (Below w.heap.size w w2) := hide ((((Below.refl _ _).alloc (Nat.le_refl _) _).alloc (by simp) _).trans (hb2.mono (by simp; omega)))
      clear hb2
      go_wp2_with fail
      go_ret
      exact ⟨ret_bool Hq2.out.symm, HB2.out⟩
    · have Hq2 : Hid (q = l.all (allE (posLe nn) d)) := hide (by rw [← Hq.out]; rfl)
      go_enter Tryz.func89, Tryz.ntmps89
      go_wp2_with fail
      refine Calls.mono (HP.out _ (((Below.refl _ _).alloc (Nat.le_refl _) _).alloc (by simp) _)) ?_
      rintro en w2 ⟨rfl, hb2⟩
      have HB2 : Hid (Below w.heap.size w w2) := hide ((((Below.refl _ _).alloc (Nat.le_refl _) _).alloc (by simp) _).trans (hb2.mono (by simp; omega)))
      obtain ⟨_, _, _, _, _, _, c6⟩ := ((HC.out.below ((Below.refl (w.heap.size + 1) _).alloc (by simp) _) (by omega)).below hb2 (by simp; omega)).seven0
      have hcB : w2.cell? ⟨w.heap.size + 1, 0, none⟩ = some (.func (.func 118) #[] #[.pointer (some ⟨Bn, 0, none⟩)]) := by
        have := (HI.out.below hb2 (by simp)) 0 _ rfl
        simpa using this
      have HcB := hide hcB
      clear hb2 hcB
      go_wp2_with fail
      refine Calls.mono (HS.out _ _ HB2.out HcB.out) ?_
      rintro en w3 ⟨rfl, hb3⟩
      have HB3 : Hid (Below w.heap.size w w3) := hide (HB2.out.trans (hb3.mono HB2.out.size))
      clear hb3
      go_wp2_with fail
      go_ret
      exact ⟨ret_bool (by rw [Hq2.out]; first | done | simp), HB3.out⟩

set_option maxRecDepth 100000 in
theorem s_l9Within (nn : Int) : ∀ (d : Nat) (e : Ex) (cs : List Value) (F : List Nat) (w : World), ExR d w e cs F →
    Calls Tryz.prog 105 #[.agg cs.toArray, .int .i64 nn] w fun en w' => en = .returned (.bool (allE (posLe nn) d e)) ∧ Below w.heap.size w w'
  | 0, _, _, _, _, h => h.elim
  | d + 1, e, cs, F, w, h => by
    obtain ⟨A, cap, rfl, hok, hl, hm, hs⟩ := ex_form h
    have HF := hide (hs.lt (ExR.good d))
    have HFe := hide ((ExR.good (d + 1)).lt h)
    have He := hide h
    generalize hq : allE (posLe nn) (d + 1) e = q
    have hq' : (posLe nn e && e.args.all (allE (posLe nn) d)) = q := hq
    have HQ := hide hq'
    clear hq hq'
    obtain ⟨⟨k, n, p, t, s, m⟩, l⟩ := e
    unfold maxLen at hm
    simp only [Ex.args, Ex.h, ExH.cells] at hs hl hm HF HFe He HQ
    have hll : l.length ≤ 9223372036854775807 := by omega
    have Hs := hide hs
    obtain ⟨C, hz0, hw0⟩ := boxes1 w [.int .i64 k, .int .i64 n, .int .i64 p, .int .i64 t, .string s, .string m, .slice A l.length cap] 86
    have Hxe : Hid (∀ W : World, Below w.heap.size w W → ExR (d + 1) W (.mk ⟨k, n, p, t, s, m⟩ l) [.int .i64 k, .int .i64 n, .int .i64 p, .int .i64 t, .string s, .string m, .slice A l.length cap] F) := hide fun W hW => (ExR.good (d + 1)).below He.out hW HFe.out
    clear hs hok h hl hm He
    show Calls _ _ #[.agg #[.int .i64 k, .int .i64 n, .int .i64 p, .int .i64 t, .string s, .string m, .slice A l.length cap], .int .i64 nn] w _
    go_enter Tryz.func105, Tryz.ntmps105
    go_wp2_with fail
    generalize w.alloc (Obj.cells #[.int .i64 k, .int .i64 n, .int .i64 p, .int .i64 t, .string s, .string m, .slice A l.length cap] 86) = W0 at C hz0 hw0 ⊢
    have hn0 : w.heap.size + 1 ≤ W0.heap.size := by omega
    have Hw : Hid (∀ W : World, Below (w.heap.size + 1) W0 W → Below w.heap.size w W) := hide fun W h => hw0.trans (h.mono (by omega))
    have Hx : Hid (∀ W : World, Below (w.heap.size + 1) W0 W → ExR (d + 1) W (.mk ⟨k, n, p, t, s, m⟩ l) [.int .i64 k, .int .i64 n, .int .i64 p, .int .i64 t, .string s, .string m, .slice A l.length cap] F) := hide fun W h => Hxe.out W (Hw.out W h)
    have e0 := cell_rule C (n := w.heap.size + 1) (by omega) 0 (v := .int .i64 k) rfl
    have e1 := cell_rule C (n := w.heap.size + 1) (by omega) 1 (v := .int .i64 n) rfl
    have e2 := cell_rule C (n := w.heap.size + 1) (by omega) 2 (v := .int .i64 p) rfl
    have e3 := cell_rule C (n := w.heap.size + 1) (by omega) 3 (v := .int .i64 t) rfl
    have e4 := cell_rule C (n := w.heap.size + 1) (by omega) 4 (v := .string s) rfl
    have e5 := cell_rule C (n := w.heap.size + 1) (by omega) 5 (v := .string m) rfl
    have e6 := cell_rule C (n := w.heap.size + 1) (by omega) 6 (v := .slice A l.length cap) rfl
    clear C hz0 hw0 Hxe
    go_loopw [5] (fun i wr => ∃ j : Nat, j ≤ l.length ∧ i = .int .i64 j ∧ Hid ((l.take j).all (allE (posLe nn) d) = true) ∧ Hid (Below (w.heap.size + 1) W0 wr)) (fun i _ => l.length - (intOf i).toNat)
    case atStart => exact ⟨0, by omega, rfl, hide rfl, hide (Below.refl _ _)⟩
    case round =>
      obtain ⟨j, hj, rfl, Hall, Hb⟩ := hrel
      have hBr := Hb.out
      by_cases hlt : j < l.length
      · have hx : l[j]? = some l[j] := List.getElem?_eq_getElem hlt
        generalize l[j] = x at hx
        have HX := hide hx
        obtain ⟨b, off, cs, Fk, hA, _, hbF, hFk, hcl, hcat, hR⟩ := SlR.get (ExR.good d) (Hs.out.below (ExR.good d) (Hw.out _ Hb.out) HF.out) hx
        subst hA
        obtain ⟨c0, c1, c2, c3, c4, c5, c6, rfl⟩ := list7 hcl
        obtain ⟨g0, g1, g2, g3, g4, g5, g6⟩ := hcat.seven
        have hblt := Nat.lt_of_lt_of_le (HF.out b hbF) (Hw.out _ Hb.out).size
        have HR := hide hR
        have hj0 : (0 : Int) ≤ (j : Int) := by omega
        have hj1 : (j : Int) < (l.length : Int) := by omega
        clear hx hR hcat hFk hbF hcl
        go_wp2_with fail
        refine Calls.mono (s_l9Within nn d x _ Fk _ HR.out) ?_
        rintro en w2 ⟨rfl, hb2⟩
        have hB2 : Below (w.heap.size + 1) W0 w2 := below_step Hb.out hn0 hb2
        clear hb2
        cases hxr : allE (posLe nn) d x
        · have Hq2 : Hid (q = false) := hide (by rw [← HQ.out, all_miss HX.out hxr]; simp)
          go_wp2_with fail
          go_ret
          exact ⟨ret_bool Hq2.out.symm, Hw.out _ hB2⟩
        · have Hxr := hide hxr
          have HB2 := hide hB2
          clear hxr hB2
          go_wp2_with fail
          go_roundw
          case rel => exact ⟨j + 1, by omega, by go_num, hide (all_take HX.out Hall.out Hxr.out), HB2⟩
          case measure => simp [intOf]; omega
      · have hjl : j = l.length := by omega
        have Hq2 : Hid (q = posLe nn (.mk ⟨k, n, p, t, s, m⟩ l)) := hide (by have := Hall.out; rw [hjl, List.take_length] at this; rw [← HQ.out, this]; simp)
        go_wp2_with fail
        go_ret
        exact ⟨ret_bool (by rw [Hq2.out]; rfl), Hw.out _ Hb.out⟩

def fitsE (D : Nat) (e : Ex) (nn : Int) : Bool := validE D e && allE (posLe nn) D e
set_option maxHeartbeats 1000000 in
theorem s_l9Expr (D : Nat) (x : Ex) (cs : List Value) (F : List Nat) (w : World) (h : ExR D w x cs F) (hbk : bulkE D x ≤ 1048576) (nn : Int) :
    Calls Tryz.prog 68 #[.agg cs.toArray, .int .i64 nn] w fun en w' => en = .returned (.bool (fitsE D x nn)) ∧ Below w.heap.size w w' := by
  obtain ⟨c0, c1, c2, c3, c4, c5, c6, rfl⟩ := list7 ((ExR.good D).len h)
  have HF := hide ((ExR.good D).lt h)
  have Hb := hide hbk
  obtain ⟨C, hz0, hw0⟩ := boxes1 w [c0, c1, c2, c3, c4, c5, c6] 86
  have Hx : Hid (∀ W : World, Below w.heap.size w W → ExR D W x [c0, c1, c2, c3, c4, c5, c6] F) := hide fun W hW => (ExR.good D).below h hW HF.out
  clear h hbk
  show Calls _ _ #[.agg #[c0, c1, c2, c3, c4, c5, c6], .int .i64 nn] w _
  go_enter Tryz.func68, Tryz.ntmps68
  go_wp2_with fail
  generalize w.alloc (Obj.cells #[c0, c1, c2, c3, c4, c5, c6] 86) = W0 at C hz0 hw0 ⊢
  have hn0 : w.heap.size + 1 ≤ W0.heap.size := by omega
  have Hw : Hid (∀ W : World, Below (w.heap.size + 1) W0 W → Below w.heap.size w W) := hide fun W h => hw0.trans (h.mono (by omega))
  have hB0 : Below (w.heap.size + 1) W0 W0 := Below.refl _ _
  have e0 := cell_rule C (n := w.heap.size + 1) (by omega) 0 (v := c0) rfl
  have e1 := cell_rule C (n := w.heap.size + 1) (by omega) 1 (v := c1) rfl
  have e2 := cell_rule C (n := w.heap.size + 1) (by omega) 2 (v := c2) rfl
  have e3 := cell_rule C (n := w.heap.size + 1) (by omega) 3 (v := c3) rfl
  have e4 := cell_rule C (n := w.heap.size + 1) (by omega) 4 (v := c4) rfl
  have e5 := cell_rule C (n := w.heap.size + 1) (by omega) 5 (v := c5) rfl
  have e6 := cell_rule C (n := w.heap.size + 1) (by omega) 6 (v := c6) rfl
  clear C hz0 hw0
  refine Calls.mono (s_IsValidExpr D x _ F W0 (Hx.out _ (Hw.out _ hB0)) Hb.out) ?_
  rintro en w1 ⟨rfl, hb1⟩
  have hB1 : Below (w.heap.size + 1) W0 w1 := below_step hB0 hn0 hb1
  clear hb1
  cases hv : validE D x
  · have Hq : Hid (fitsE D x nn = false) := hide (by unfold fitsE; rw [hv]; rfl)
    go_wp2_with fail
    go_ret
    exact ⟨ret_bool Hq.out.symm, Hw.out _ hB1⟩
  · have Hq : Hid (fitsE D x nn = allE (posLe nn) D x) := hide (by unfold fitsE; rw [hv]; rfl)
    go_wp2_with fail
    refine Calls.mono (s_l9Within nn D x _ F w1 (Hx.out _ (Hw.out _ hB1))) ?_
    rintro en w2 ⟨rfl, hb2⟩
    have hB2 : Below (w.heap.size + 1) W0 w2 := below_step hB1 hn0 hb2
    clear hb2
    go_wp2_with fail
    go_ret
    exact ⟨ret_bool Hq.out.symm, Hw.out _ hB2⟩
set_option maxHeartbeats 1000000 in
theorem i_fits (D : Nat) (x : Ex) (cs : List Value) (F : List Nat) (w : World) (h : ExR D w x cs F) (hbk : bulkE D x ≤ 1048576) (nn : Int) :
    Calls Tryz.prog 83 #[.agg cs.toArray, .int .i64 nn] w fun en w' => en = .returned (.bool (fitsE D x nn)) ∧ Below w.heap.size w w' := by
  obtain ⟨c0, c1, c2, c3, c4, c5, c6, rfl⟩ := list7 ((ExR.good D).len h)
  have HF := hide ((ExR.good D).lt h)
  have Hb := hide hbk
  obtain ⟨C, C2, hz0, hw0⟩ := boxes2 w [c0, c1, c2, c3, c4, c5, c6] [.int .i64 nn] 86 3
  have Hx : Hid (∀ W : World, Below w.heap.size w W → ExR D W x [c0, c1, c2, c3, c4, c5, c6] F) := hide fun W hW => (ExR.good D).below h hW HF.out
  clear h hbk
  show Calls _ _ #[.agg #[c0, c1, c2, c3, c4, c5, c6], .int .i64 nn] w _
  go_enter Tryz.func83, Tryz.ntmps83
  go_wp2_with fail
  generalize (w.alloc (Obj.cells #[c0, c1, c2, c3, c4, c5, c6] 86)).alloc (Obj.cells #[.int .i64 nn] 3) = W0 at C C2 hz0 hw0 ⊢
  have hn0 : w.heap.size + 2 ≤ W0.heap.size := by omega
  have Hw : Hid (∀ W : World, Below (w.heap.size + 2) W0 W → Below w.heap.size w W) := hide fun W h => hw0.trans (h.mono (by omega))
  have hB0 : Below (w.heap.size + 2) W0 W0 := Below.refl _ _
  have e0 := cell_rule C (n := w.heap.size + 2) (by omega) 0 (v := c0) rfl
  have e1 := cell_rule C (n := w.heap.size + 2) (by omega) 1 (v := c1) rfl
  have e2 := cell_rule C (n := w.heap.size + 2) (by omega) 2 (v := c2) rfl
  have e3 := cell_rule C (n := w.heap.size + 2) (by omega) 3 (v := c3) rfl
  have e4 := cell_rule C (n := w.heap.size + 2) (by omega) 4 (v := c4) rfl
  have e5 := cell_rule C (n := w.heap.size + 2) (by omega) 5 (v := c5) rfl
  have e6 := cell_rule C (n := w.heap.size + 2) (by omega) 6 (v := c6) rfl
  have g0 := cell_rule C2 (n := w.heap.size + 2) (by omega) 0 (v := .int .i64 nn) rfl
  clear C C2 hz0 hw0
  refine Calls.mono (i_IsValidExpr D x _ F W0 (Hx.out _ (Hw.out _ hB0)) Hb.out) ?_
  rintro en w1 ⟨rfl, hb1⟩
  have hB1 : Below (w.heap.size + 2) W0 w1 := below_step hB0 hn0 hb1
  clear hb1
  cases hv : validE D x
  · have Hq : Hid (fitsE D x nn = false) := hide (by unfold fitsE; rw [hv]; rfl)
    go_wp2_with fail
    go_ret
    exact ⟨ret_bool Hq.out.symm, Hw.out _ hB1⟩
  · have Hq : Hid (fitsE D x nn = allE (posLe nn) D x) := hide (by unfold fitsE; rw [hv]; rfl)
    go_wp2_with fail
    refine Calls.mono (evn_fit nn D x _ F w1 (w.heap.size + 1) (Hx.out _ (Hw.out _ hB1)) (g0 w1 hB1)) ?_
    rintro en w2 ⟨rfl, hb2⟩
    have hB2 : Below (w.heap.size + 2) W0 w2 := below_step hB1 hn0 hb2
    clear hb2
    go_wp2_with fail
    go_ret
    exact ⟨ret_bool Hq.out.symm, Hw.out _ hB2⟩
end Go.Proofs.YthlhhnnlbpecnaaGreat
