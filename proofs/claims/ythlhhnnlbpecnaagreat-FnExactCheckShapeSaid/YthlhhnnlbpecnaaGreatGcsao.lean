/- Several texts of one proof in one file: Valid expressions: both sides. Conditions: each theorem names its own. -/
import Derived.Test.YthlhhnnlbpecnaaGreatGcsan
import Derived.Test.YthlhhnnlbpecnaaGreatGcsab

/- Valid expressions: both sides. Conditions: the expression has at most the size 2^20. -/
namespace Go.Proofs.YthlhhnnlbpecnaaGreat
set_option linter.unusedSimpArgs false
set_option linter.unusedVariables false
set_option maxRecDepth 100000
open Go.RowKit Go.WideShapes
set_option linter.unusedVariables false

def EvN_ok (d : Nat) : Prop := ∀ (e : Ex) (cs : List Value) (F : List Nat) (w : World), ExR d w e cs F →
  Calls Tryz.prog 89 #[.agg cs.toArray, .func (.func 141) #[] #[]] w fun en w' => en = .returned (.bool (allE okN d e)) ∧ Below w.heap.size w w'
set_option maxRecDepth 100000 in
/-- The closure: an argument that fails. -/
theorem clo_ok {d : Nat} (hE : EvN_ok d) (e : Ex) (cs : List Value) (F : List Nat) (w : World) (B : Nat) (h : ExR d w e cs F) (hc : w.cell? ⟨B, 0, none⟩ = some (.func (.func 141) #[] #[])) (hF : ∀ b ∈ F, b < w.heap.size) :
    Calls Tryz.prog 119 #[.agg cs.toArray, .pointer (some ⟨B, 0, none⟩)] w fun en w' => en = .returned (.bool !(allE okN d e)) ∧ Below w.heap.size w w' := by
  match d, h with
  | d + 1, h =>
  obtain ⟨A, cap, rfl, hok, hl, hm, hs⟩ := ex_form h
  have HR := hide h
  have HF := hide hF
  have HE := hide hE
  obtain ⟨⟨k, n, p, t, s, m⟩, l⟩ := e
  have hlt := cell_lt hc
  simp only [Ex.args, Ex.h, ExH.cells] at HR
  show Calls _ _ #[.agg #[.int .i64 k, .int .i64 n, .int .i64 p, .int .i64 t, .string s, .string m, .slice A l.length cap], .pointer (some ⟨B, 0, none⟩)] w _
  generalize Ex.mk ⟨k, n, p, t, s, m⟩ l = e at HR ⊢
  clear h hs hok hl hm hE
  go_enter Tryz.func119, Tryz.ntmps119
  go_wp2_with fail
  refine Calls.mono (HE.out e _ F _ ((ExR.good (d + 1)).below HR.out ((Below.refl _ _).alloc (Nat.le_refl _) _) HF.out)) ?_
  rintro en w2 ⟨rfl, hb2⟩
  have HB2 : Hid (Below w.heap.size w w2) := hide (((Below.refl _ _).alloc (Nat.le_refl _) _).trans (hb2.mono (by simp)))
  clear hb2
  go_wp2_with fail
  go_ret
  exact ⟨rfl, HB2.out⟩

/-- Does every argument fulfil it? -1, or the index of one that does not. -/
def IdxOf_ok (l : List Ex) (d : Nat) (en : Ending) : Prop := (en = .returned (.int .i64 (-1)) ∧ l.all (allE okN d) = true) ∨ ∃ r : Nat, en = .returned (.int .i64 r) ∧ l.all (allE okN d) = false
theorem idx_ok {d : Nat} (hE : EvN_ok d) (l : List Ex) (A : Option Addr) (cap : Nat) (F : List Nat) (w : World) (B : Nat) (hs : SlR 7 (ExR d) w l (.slice A l.length cap) F) (hc : w.cell? ⟨B, 0, none⟩ = some (.func (.func 141) #[] #[])) :
    Calls Tryz.prog 88 #[.slice A l.length cap, .func (.func 119) #[] #[.pointer (some ⟨B, 0, none⟩)]] w fun en w' => IdxOf_ok l d en ∧ Below w.heap.size w w' := by
  have HF := hide (hs.lt (ExR.good d))
  obtain ⟨_, hlc, hm⟩ := hs.bnd
  unfold maxLen at hm
  have Hs := hide hs
  have HE := hide hE
  have hBlt := cell_lt hc
  have Hc := hide hc
  clear hs hE hc
  go_enter Tryz.func88, Tryz.ntmps88
  go_wp2_with fail
  go_loopw [8] (fun i wr => ∃ j : Nat, j ≤ l.length ∧ i = .int .i64 j ∧ Hid ((l.take j).all (allE okN d) = true) ∧ Hid (Below w.heap.size w wr)) (fun i _ => l.length - (intOf i).toNat)
  case atStart => exact ⟨0, by omega, rfl, hide rfl, hide (Below.refl _ _)⟩
  case round =>
    obtain ⟨j, hj, rfl, Hall, Hb⟩ := hrel
    by_cases hlt : j < l.length
    · have hx : l[j]? = some l[j] := List.getElem?_eq_getElem hlt
      generalize l[j] = x at hx
      have Hx := hide hx
      obtain ⟨b, off, A', cap', Fk, hA, hbF, hFk, _, hl', hm', hcat, hR⟩ := ex_get (Hs.out.below (ExR.good d) Hb.out HF.out) hx
      subst hA
      obtain ⟨e0, e1, e2, e3, e4, e5, e6⟩ := hcat.seven
      have hblt := Nat.lt_of_lt_of_le (HF.out b hbF) Hb.out.size
      have HR := hide hR
      have HFk : Hid (∀ i ∈ Fk, i < wr.heap.size) := hide fun i hi => Nat.lt_of_lt_of_le (HF.out i (hFk i hi)) Hb.out.size
      have Hcw : Hid (wr.cell? ⟨B, 0, none⟩ = some (.func (.func 141) #[] #[])) := hide ((Hb.out.cell (p := ⟨B, 0, none⟩) hBlt).trans Hc.out)
      clear hx hR hcat hFk hbF hl' hm'
      go_wp2_with fail
      refine Calls.mono (clo_ok HE.out x _ Fk _ B HR.out Hcw.out HFk.out) ?_
      rintro en w2 ⟨rfl, hb2⟩
      have HB2 : Hid (Below w.heap.size w w2) := hide (Hb.out.trans (hb2.mono Hb.out.size))
      clear hb2
      cases hxr : allE okN d x
      · have Hbad : Hid (l.all (allE okN d) = false) := hide (by rw [Bool.eq_false_iff]; intro h; have := List.all_eq_true.1 h x (List.mem_of_getElem? Hx.out); rw [hxr] at this; cases this)
        clear hxr
        go_wp2_with fail
        go_ret
        exact ⟨.inr ⟨j, rfl, Hbad.out⟩, HB2.out⟩
      · have Hxr := hide hxr
        clear hxr
        go_wp2_with fail
        go_roundw
        case rel => exact ⟨j + 1, by omega, by go_num, hide (by rw [take_snoc Hx.out, List.all_append, Hall.out]; simp [Hxr.out]), HB2⟩
        case measure => simp [intOf]; omega
    · have hjl : j = l.length := by omega
      have Hall' : Hid (l.all (allE okN d) = true) := hide (by have := Hall.out; rw [hjl, List.take_length] at this; exact this)
      go_wp2_with fail
      go_ret
      exact ⟨.inl ⟨rfl, Hall'.out⟩, Hb.out⟩
theorem con_ok {d : Nat} (hE : EvN_ok d) (l : List Ex) (A : Option Addr) (cap : Nat) (F : List Nat) (w : World) (B : Nat) (hs : SlR 7 (ExR d) w l (.slice A l.length cap) F) (hc : w.cell? ⟨B, 0, none⟩ = some (.func (.func 141) #[] #[])) :
    Calls Tryz.prog 53 #[.slice A l.length cap, .func (.func 119) #[] #[.pointer (some ⟨B, 0, none⟩)]] w fun en w' => en = .returned (.bool !(l.all (allE okN d))) ∧ Below w.heap.size w w' := by
  have HI := hide (idx_ok hE l A cap F w B hs hc)
  clear hE hs hc
  go_enter Tryz.func53, Tryz.ntmps53
  go_wp2_with fail
  refine Calls.mono HI.out ?_
  rintro en w2 ⟨hr, hb2⟩
  have HB2 := hide hb2
  clear hb2
  rcases hr with ⟨rfl, ha⟩ | ⟨r, rfl, ha⟩
  all_goals
    have Ha := hide ha
    clear ha
    go_wp2_with fail
    go_ret
    exact ⟨ret_bool (by rw [Ha.out]; first | rfl | simp), HB2.out⟩
theorem evn_ok : ∀ d, EvN_ok d
  | 0 => fun _ _ _ _ h => h.elim
  | d + 1 => fun e cs F w h => by
    obtain ⟨A, cap, rfl, hok, hl, hm, hs⟩ := ex_form h
    have HF := hide (hs.lt (ExR.good d))
    have HFe := hide ((ExR.good (d + 1)).lt h)
    have H := hide h
    generalize hq : allE okN (d + 1) e = q
    have hq' : (okN e && e.args.all (allE okN d)) = q := hq
    have Hq := hide hq'
    have HP : Hid (∀ W : World, Below w.heap.size w W → Calls Tryz.prog 141 #[.agg (e.h.cells (.slice A e.args.length cap)).toArray] W fun en w' => en = .returned (.bool (okN e)) ∧ Below W.heap.size W w') := hide fun W hW => i_okN e _ F W ((ExR.good (d + 1)).below H.out hW HFe.out)
    obtain ⟨⟨k, n, p, t, s, m⟩, l⟩ := e
    simp only [Ex.args, Ex.h, ExH.cells] at hs hl HF HFe H Hq HP
    generalize okN (Ex.mk ⟨k, n, p, t, s, m⟩ l) = pe at HP Hq
    have HS : Hid (∀ (W : World) (B : Nat), Below w.heap.size w W → W.cell? ⟨B, 0, none⟩ = some (.func (.func 141) #[] #[]) → Calls Tryz.prog 53 #[.slice A l.length cap, .func (.func 119) #[] #[.pointer (some ⟨B, 0, none⟩)]] W fun en w' => en = .returned (.bool !(l.all (allE okN d))) ∧ Below W.heap.size W w') := hide fun W B hW hc =>
      con_ok (evn_ok d) l A cap F W B (hs.below (ExR.good d) hW HF.out) hc
    show Calls _ _ #[.agg #[.int .i64 k, .int .i64 n, .int .i64 p, .int .i64 t, .string s, .string m, .slice A l.length cap], .func (.func 141) #[] #[]] w _
    clear hs hok h hq hq' hl hm
    have HC := hide (CellsAt.new w [.int .i64 k, .int .i64 n, .int .i64 p, .int .i64 t, .string s, .string m, .slice A l.length cap] 86)
    have HI := hide (CellsAt.new (w.alloc (.cells #[.int .i64 k, .int .i64 n, .int .i64 p, .int .i64 t, .string s, .string m, .slice A l.length cap] 86)) [.func (.func 141) #[] #[]] 96)
    cases pe
    · have Hq2 : Hid (q = false) := hide (by rw [← Hq.out]; rfl)
      go_enter Tryz.func89, Tryz.ntmps89
      go_wp2_with fail
      refine Calls.mono (HP.out _ (((Below.refl _ _).alloc (Nat.le_refl _) _).alloc (by simp) _)) ?_
      rintro en w2 ⟨rfl, hb2⟩
      have HB2 : Hid (Below w.heap.size w w2) := hide ((((Below.refl _ _).alloc (Nat.le_refl _) _).alloc (by simp) _).trans (hb2.mono (by simp; omega)))
      clear hb2
      go_wp2_with fail
      go_ret
      exact ⟨ret_bool Hq2.out.symm, HB2.out⟩
    · have Hq2 : Hid (q = l.all (allE okN d)) := hide (by rw [← Hq.out]; rfl)
      go_enter Tryz.func89, Tryz.ntmps89
      go_wp2_with fail
      refine Calls.mono (HP.out _ (((Below.refl _ _).alloc (Nat.le_refl _) _).alloc (by simp) _)) ?_
      rintro en w2 ⟨rfl, hb2⟩
      have HB2 : Hid (Below w.heap.size w w2) := hide ((((Below.refl _ _).alloc (Nat.le_refl _) _).alloc (by simp) _).trans (hb2.mono (by simp; omega)))
      obtain ⟨_, _, _, _, _, _, c6⟩ := ((HC.out.below ((Below.refl (w.heap.size + 1) _).alloc (by simp) _) (by omega)).below hb2 (by simp; omega)).seven0
      have hcB : w2.cell? ⟨w.heap.size + 1, 0, none⟩ = some (.func (.func 141) #[] #[]) := by
        have := (HI.out.below hb2 (by simp)) 0 _ rfl
        simpa using this
      have HcB := hide hcB
      clear hb2 hcB
      go_wp2_with fail
      refine Calls.mono (HS.out _ _ HB2.out HcB.out) ?_
      rintro en w3 ⟨rfl, hb3⟩
      have HB3 : Hid (Below w.heap.size w w3) := hide (HB2.out.trans (hb3.mono HB2.out.size))
      clear hb3
      go_wp2_with fail
      go_ret
      exact ⟨ret_bool (by rw [Hq2.out]; first | done | simp), HB3.out⟩

theorem all_take {α : Type} {f : α → Bool} {xs : List α} {k : Nat} {x : α} (hx : xs[k]? = some x) (h : (xs.take k).all f = true) (hf : f x = true) : (xs.take (k + 1)).all f = true := by rw [take_snoc hx, List.all_append, h]; simp [hf]
theorem all_miss {α : Type} {f : α → Bool} {xs : List α} {k : Nat} {x : α} (hx : xs[k]? = some x) (hf : f x = false) : xs.all f = false := by
  rw [List.all_eq_false]
  exact ⟨x, List.mem_of_getElem? hx, by simp [hf]⟩
set_option maxRecDepth 100000 in
theorem s_l4All : ∀ (d : Nat) (e : Ex) (cs : List Value) (F : List Nat) (w : World), ExR d w e cs F →
    Calls Tryz.prog 134 #[.agg cs.toArray] w fun en w' => en = .returned (.bool (allE okN d e)) ∧ Below w.heap.size w w'
  | 0, _, _, _, _, h => h.elim
  | d + 1, e, cs, F, w, h => by
    obtain ⟨A, cap, rfl, hok, hl, hm, hs⟩ := ex_form h
    have HF := hide (hs.lt (ExR.good d))
    have HFe := hide ((ExR.good (d + 1)).lt h)
    have He := hide h
    generalize hq : allE okN (d + 1) e = q
    have hq' : (okN e && e.args.all (allE okN d)) = q := hq
    have HQ := hide hq'
    clear hq hq'
    obtain ⟨⟨k, n, p, t, s, m⟩, l⟩ := e
    unfold maxLen at hm
    simp only [Ex.args, Ex.h, ExH.cells] at hs hl hm HF HFe He HQ
    have hll : l.length ≤ 9223372036854775807 := by omega
    have Hs := hide hs
    obtain ⟨C, hz0, hw0⟩ := boxes1 w [.int .i64 k, .int .i64 n, .int .i64 p, .int .i64 t, .string s, .string m, .slice A l.length cap] 86
    have Hxe : Hid (∀ W : World, Below w.heap.size w W → ExR (d + 1) W (.mk ⟨k, n, p, t, s, m⟩ l) [.int .i64 k, .int .i64 n, .int .i64 p, .int .i64 t, .string s, .string m, .slice A l.length cap] F) := hide fun W hW => (ExR.good (d + 1)).below He.out hW HFe.out
    clear hs hok h hl hm He
    show Calls _ _ #[.agg #[.int .i64 k, .int .i64 n, .int .i64 p, .int .i64 t, .string s, .string m, .slice A l.length cap]] w _
    go_enter Tryz.func134, Tryz.ntmps134
    go_wp2_with fail
    generalize w.alloc (Obj.cells #[.int .i64 k, .int .i64 n, .int .i64 p, .int .i64 t, .string s, .string m, .slice A l.length cap] 86) = W0 at C hz0 hw0 ⊢
    have hn0 : w.heap.size + 1 ≤ W0.heap.size := by omega
    have Hw : Hid (∀ W : World, Below (w.heap.size + 1) W0 W → Below w.heap.size w W) := hide fun W h => hw0.trans (h.mono (by omega))
    have Hx : Hid (∀ W : World, Below (w.heap.size + 1) W0 W → ExR (d + 1) W (.mk ⟨k, n, p, t, s, m⟩ l) [.int .i64 k, .int .i64 n, .int .i64 p, .int .i64 t, .string s, .string m, .slice A l.length cap] F) := hide fun W h => Hxe.out W (Hw.out W h)
    have e0 := cell_rule C (n := w.heap.size + 1) (by omega) 0 (v := .int .i64 k) rfl
    have e1 := cell_rule C (n := w.heap.size + 1) (by omega) 1 (v := .int .i64 n) rfl
    have e2 := cell_rule C (n := w.heap.size + 1) (by omega) 2 (v := .int .i64 p) rfl
    have e3 := cell_rule C (n := w.heap.size + 1) (by omega) 3 (v := .int .i64 t) rfl
    have e4 := cell_rule C (n := w.heap.size + 1) (by omega) 4 (v := .string s) rfl
    have e5 := cell_rule C (n := w.heap.size + 1) (by omega) 5 (v := .string m) rfl
    have e6 := cell_rule C (n := w.heap.size + 1) (by omega) 6 (v := .slice A l.length cap) rfl
    clear C hz0 hw0 Hxe
    go_loopw [3] (fun i wr => ∃ j : Nat, j ≤ l.length ∧ i = .int .i64 j ∧ Hid ((l.take j).all (allE okN d) = true) ∧ Hid (Below (w.heap.size + 1) W0 wr)) (fun i _ => l.length - (intOf i).toNat)
    case atStart => exact ⟨0, by omega, rfl, hide rfl, hide (Below.refl _ _)⟩
    case round =>
      obtain ⟨j, hj, rfl, Hall, Hb⟩ := hrel
      have hBr := Hb.out
      by_cases hlt : j < l.length
      · have hx : l[j]? = some l[j] := List.getElem?_eq_getElem hlt
        generalize l[j] = x at hx
        have HX := hide hx
        obtain ⟨b, off, cs, Fk, hA, _, hbF, hFk, hcl, hcat, hR⟩ := SlR.get (ExR.good d) (Hs.out.below (ExR.good d) (Hw.out _ Hb.out) HF.out) hx
        subst hA
        obtain ⟨c0, c1, c2, c3, c4, c5, c6, rfl⟩ := list7 hcl
        obtain ⟨g0, g1, g2, g3, g4, g5, g6⟩ := hcat.seven
        have hblt := Nat.lt_of_lt_of_le (HF.out b hbF) (Hw.out _ Hb.out).size
        have HR := hide hR
        have hj0 : (0 : Int) ≤ (j : Int) := by omega
        have hj1 : (j : Int) < (l.length : Int) := by omega
        clear hx hR hcat hFk hbF hcl
        go_wp2_with fail
        refine Calls.mono (s_l4All d x _ Fk _ HR.out) ?_
        rintro en w2 ⟨rfl, hb2⟩
        have hB2 : Below (w.heap.size + 1) W0 w2 := below_step Hb.out hn0 hb2
        clear hb2
        cases hxr : allE okN d x
        · have Hq2 : Hid (q = false) := hide (by rw [← HQ.out, all_miss HX.out hxr]; simp)
          go_wp2_with fail
          go_ret
          exact ⟨ret_bool Hq2.out.symm, Hw.out _ hB2⟩
        · have Hxr := hide hxr
          have HB2 := hide hB2
          clear hxr hB2
          go_wp2_with fail
          go_roundw
          case rel => exact ⟨j + 1, by omega, by go_num, hide (all_take HX.out Hall.out Hxr.out), HB2⟩
          case measure => simp [intOf]; omega
      · have hjl : j = l.length := by omega
        have Hq2 : Hid (q = okN (.mk ⟨k, n, p, t, s, m⟩ l)) := hide (by have := Hall.out; rw [hjl, List.take_length] at this; rw [← HQ.out, this]; simp)
        go_wp2_with fail
        refine Calls.mono (s_okN _ _ F _ (Hx.out _ Hb.out)) ?_
        rintro en w2 ⟨rfl, hb2⟩
        have HB2 : Hid (Below (w.heap.size + 1) W0 w2) := hide (below_step Hb.out hn0 hb2)
        clear hb2
        go_wp2_with fail
        go_ret
        exact ⟨ret_bool Hq2.out.symm, Hw.out _ HB2.out⟩
def LeftOk (L c : Int) (e : Ending) : Prop := ∃ r : Int, e = .returned (.int .i64 r) ∧ ((0 ≤ r ∧ r = L - c) ∨ (r < 0 ∧ L < c))
set_option maxRecDepth 100000 in
theorem s_l4Left : ∀ (d : Nat) (e : Ex) (cs : List Value) (F : List Nat) (w : World) (L : Int), ExR d w e cs F → 0 ≤ L → L ≤ 1048576 →
    Calls Tryz.prog 132 #[.agg cs.toArray, .int .i64 L] w fun en w' => LeftOk L (cntE d e) en ∧ Below w.heap.size w w'
  | 0, _, _, _, _, _, h, _, _ => h.elim
  | d + 1, e, cs, F, w, L, h, h0, h1 => by
    obtain ⟨A, cap, rfl, hok, hl, hm, hs⟩ := ex_form h
    have HF := hide (hs.lt (ExR.good d))
    have HFe := hide ((ExR.good (d + 1)).lt h)
    have He := hide h
    have HQ := hide (show cntE (d + 1) e = 1 + sumBy (cntE d) e.args from rfl)
    obtain ⟨⟨k, n, p, t, s, m⟩, l⟩ := e
    unfold maxLen at hm
    simp only [Ex.args, Ex.h, ExH.cells] at hs hl hm HF HFe He HQ
    have hll : l.length ≤ 9223372036854775807 := by omega
    have Hs := hide hs
    obtain ⟨C, hz0, hw0⟩ := boxes1 w [.int .i64 k, .int .i64 n, .int .i64 p, .int .i64 t, .string s, .string m, .slice A l.length cap] 86
    have Hxe : Hid (∀ W : World, Below w.heap.size w W → ExR (d + 1) W (.mk ⟨k, n, p, t, s, m⟩ l) [.int .i64 k, .int .i64 n, .int .i64 p, .int .i64 t, .string s, .string m, .slice A l.length cap] F) := hide fun W hW => (ExR.good (d + 1)).below He.out hW HFe.out
    clear hs hok h hl hm He
    show Calls _ _ #[.agg #[.int .i64 k, .int .i64 n, .int .i64 p, .int .i64 t, .string s, .string m, .slice A l.length cap], .int .i64 L] w _
    have Hnn := hide (cntE_nonneg d)
    go_enter Tryz.func132, Tryz.ntmps132
    go_wp2_with fail
    generalize w.alloc (Obj.cells #[.int .i64 k, .int .i64 n, .int .i64 p, .int .i64 t, .string s, .string m, .slice A l.length cap] 86) = W0 at C hz0 hw0 ⊢
    have hn0 : w.heap.size + 1 ≤ W0.heap.size := by omega
    have Hw : Hid (∀ W : World, Below (w.heap.size + 1) W0 W → Below w.heap.size w W) := hide fun W h => hw0.trans (h.mono (by omega))
    have Hx : Hid (∀ W : World, Below (w.heap.size + 1) W0 W → ExR (d + 1) W (.mk ⟨k, n, p, t, s, m⟩ l) [.int .i64 k, .int .i64 n, .int .i64 p, .int .i64 t, .string s, .string m, .slice A l.length cap] F) := hide fun W h => Hxe.out W (Hw.out W h)
    have e0 := cell_rule C (n := w.heap.size + 1) (by omega) 0 (v := .int .i64 k) rfl
    have e1 := cell_rule C (n := w.heap.size + 1) (by omega) 1 (v := .int .i64 n) rfl
    have e2 := cell_rule C (n := w.heap.size + 1) (by omega) 2 (v := .int .i64 p) rfl
    have e3 := cell_rule C (n := w.heap.size + 1) (by omega) 3 (v := .int .i64 t) rfl
    have e4 := cell_rule C (n := w.heap.size + 1) (by omega) 4 (v := .string s) rfl
    have e5 := cell_rule C (n := w.heap.size + 1) (by omega) 5 (v := .string m) rfl
    have e6 := cell_rule C (n := w.heap.size + 1) (by omega) 6 (v := .slice A l.length cap) rfl
    clear C hz0 hw0 Hxe
    go_loopw [1, 5] (fun lv i wr => ∃ (j : Nat) (c : Int), j ≤ l.length ∧ i = .int .i64 j ∧ lv = .int .i64 c ∧ c ≤ 1048576 ∧ Hid ((0 ≤ c ∧ c = L - 1 - sumBy (cntE d) (l.take j)) ∨ (c < 0 ∧ L - 1 < sumBy (cntE d) (l.take j))) ∧ Hid (Below (w.heap.size + 1) W0 wr)) (fun _ i _ => l.length - (intOf i).toNat)
    case atStart => exact ⟨0, L - 1, by omega, rfl, rfl, by omega, hide (by simp [sumBy]; omega), hide (Below.refl _ _)⟩
    case round =>
      obtain ⟨j, c, hj, rfl, rfl, hc1, Hc, Hb⟩ := hrel
      have hBr := Hb.out
      by_cases hlt : j < l.length
      case neg =>
        have hjl : j = l.length := by omega
        have Hfin : Hid ((0 ≤ c ∧ c = L - (1 + sumBy (cntE d) l)) ∨ (c < 0 ∧ L < 1 + sumBy (cntE d) l)) := hide (by have := Hc.out; rw [hjl, List.take_length] at this; omega)
        go_wp2_with fail
        go_ret
        exact ⟨⟨_, rfl, by rw [HQ.out]; exact Hfin.out⟩, Hw.out _ Hb.out⟩
      by_cases hc0 : 0 ≤ c
      · have hx : l[j]? = some l[j] := List.getElem?_eq_getElem hlt
        generalize l[j] = x at hx
        have HX := hide hx
        obtain ⟨b, off, cs, Fk, hA, _, hbF, hFk, hcl, hcat, hR⟩ := SlR.get (ExR.good d) (Hs.out.below (ExR.good d) (Hw.out _ Hb.out) HF.out) hx
        subst hA
        obtain ⟨c0, c1, c2, c3, c4, c5, c6, rfl⟩ := list7 hcl
        obtain ⟨g0, g1, g2, g3, g4, g5, g6⟩ := hcat.seven
        have hblt := Nat.lt_of_lt_of_le (HF.out b hbF) (Hw.out _ Hb.out).size
        have HR := hide hR
        have hj0 : (0 : Int) ≤ (j : Int) := by omega
        have hj1 : (j : Int) < (l.length : Int) := by omega
        clear hx hR hcat hFk hbF hcl
        have Hsum := hide (sumBy_take_succ (f := cntE d) HX.out)
        go_wp2_with fail
        refine Calls.mono (s_l4Left d x _ Fk _ c HR.out hc0 hc1) ?_
        rintro en w2 ⟨⟨r, rfl, hr⟩, hb2⟩
        have HB2 : Hid (Below (w.heap.size + 1) W0 w2) := hide (below_step Hb.out hn0 hb2)
        have Hc2 : Hid ((0 ≤ r ∧ r = L - 1 - sumBy (cntE d) (l.take (j + 1))) ∨ (r < 0 ∧ L - 1 < sumBy (cntE d) (l.take (j + 1)))) := hide (by rw [Hsum.out]; have := Hc.out; omega)
        have hr1 : r ≤ 1048576 := by have := Hnn.out x; omega
        clear hb2 hr
        go_wp2_with fail
        go_roundw
        case rel => exact ⟨j + 1, r, by omega, by go_num, rfl, hr1, Hc2, HB2⟩
        case measure => simp [intOf]; omega
      · have Hfin : Hid (c < 0 ∧ L < 1 + sumBy (cntE d) l) := hide (by have := Hc.out; have := sumBy_take_le Hnn.out l j; omega)
        have hc0' : c < 0 := by omega
        go_wp2_with fail
        go_ret
        exact ⟨⟨_, rfl, by rw [HQ.out]; exact .inr Hfin.out⟩, Hw.out _ Hb.out⟩
def validE (D : Nat) (e : Ex) : Bool := decide (cntE D e ≤ 24) && (decide (depE D e ≤ 6) && allE okN D e)
set_option maxRecDepth 100000 in
set_option maxHeartbeats 1000000 in
theorem s_IsValidExpr (D : Nat) (x : Ex) (cs : List Value) (F : List Nat) (w : World) (h : ExR D w x cs F) (hbk : bulkE D x ≤ 1048576) :
    Calls Tryz.prog 104 #[.agg cs.toArray] w fun en w' => en = .returned (.bool (validE D x)) ∧ Below w.heap.size w w' := by
  have hcb := cnt_le_bulk D x
  have hcn := cntE_nonneg D x
  have hdp := depE_le D x
  have hcx : cntE D x ≤ 2097152 := by omega
  have HFe := hide ((ExR.good D).lt h)
  obtain ⟨v0, v1, v2, v3, v4, v5, v6, rfl⟩ := list7 ((ExR.good D).len h)
  have HX0 : Hid (∀ W : World, Below w.heap.size w W → ExR D W x [v0, v1, v2, v3, v4, v5, v6] F) := hide fun W hW => (ExR.good D).below h hW HFe.out
  obtain ⟨C, hz0, hw0⟩ := boxes1 w [v0, v1, v2, v3, v4, v5, v6] 86
  show Calls _ _ #[.agg #[v0, v1, v2, v3, v4, v5, v6]] w _
  clear h hbk hcb
  go_enter Tryz.func104, Tryz.ntmps104
  go_wp2_with fail
  generalize w.alloc (Obj.cells #[v0, v1, v2, v3, v4, v5, v6] 86) = W0 at C hz0 hw0 ⊢
  have hn0 : w.heap.size + 1 ≤ W0.heap.size := by omega
  have Hw : Hid (∀ W : World, Below (w.heap.size + 1) W0 W → Below w.heap.size w W) := hide fun W h => hw0.trans (h.mono (by omega))
  have HX : Hid (∀ W : World, Below (w.heap.size + 1) W0 W → ExR D W x [v0, v1, v2, v3, v4, v5, v6] F) := hide fun W h => HX0.out W (Hw.out W h)
  have hB0 : Below (w.heap.size + 1) W0 W0 := Below.refl _ _
  have e0 := cell_rule C (n := w.heap.size + 1) (by omega) 0 (v := v0) rfl
  have e1 := cell_rule C (n := w.heap.size + 1) (by omega) 1 (v := v1) rfl
  have e2 := cell_rule C (n := w.heap.size + 1) (by omega) 2 (v := v2) rfl
  have e3 := cell_rule C (n := w.heap.size + 1) (by omega) 3 (v := v3) rfl
  have e4 := cell_rule C (n := w.heap.size + 1) (by omega) 4 (v := v4) rfl
  have e5 := cell_rule C (n := w.heap.size + 1) (by omega) 5 (v := v5) rfl
  have e6 := cell_rule C (n := w.heap.size + 1) (by omega) 6 (v := v6) rfl
  clear C hz0 hw0 HX0
  refine Calls.mono (s_l4Left D x _ F _ 24 (HX.out _ hB0) (by omega) (by omega)) ?_
  rintro en W1 ⟨⟨r, rfl, hr⟩, hb⟩
  have hB1 : Below (w.heap.size + 1) W0 W1 := below_step hB0 hn0 hb
  clear hb
  have hcc : decide (cntE D x ≤ 24) = decide (0 ≤ r) := by rw [Bool.eq_iff_iff]; simp; omega
  have Hv : Hid (validE D x = (decide (0 ≤ r) && (decide (depE D x ≤ 6) && allE okN D x))) := hide (by unfold validE; rw [hcc])
  clear hcc hr
  by_cases h1 : 0 ≤ r
  · go_wp2_with fail
    refine Calls.mono (s_DepthOfExpr D x _ F _ (HX.out _ hB1) hcx) ?_
    rintro en W2 ⟨rfl, hb⟩
    have hB2 : Below (w.heap.size + 1) W0 W2 := below_step hB1 hn0 hb
    clear hb
    by_cases h2 : depE D x ≤ 6
    · go_wp2_with fail
      refine Calls.mono (s_l4All D x _ F _ (HX.out _ hB2)) ?_
      rintro en W3 ⟨rfl, hb⟩
      have hB3 : Below (w.heap.size + 1) W0 W3 := below_step hB2 hn0 hb
      clear hb
      go_wp2_with fail
      go_ret
      exact ⟨ret_bool (by rw [Hv.out, decide_eq_true (p := 0 ≤ r) (by omega), decide_eq_true (p := depE D x ≤ 6) (by omega)]; rfl), Hw.out _ hB3⟩
    · go_wp2_with fail
      go_ret
      exact ⟨ret_bool (by rw [Hv.out, decide_eq_true (p := 0 ≤ r) (by omega), decide_eq_false (p := depE D x ≤ 6) (by omega)]; rfl), Hw.out _ hB2⟩
  · go_wp2_with fail
    go_ret
    exact ⟨ret_bool (by rw [Hv.out, decide_eq_false (p := 0 ≤ r) (by omega)]; rfl), Hw.out _ hB1⟩
set_option maxRecDepth 100000 in
set_option maxHeartbeats 1000000 in
theorem i_IsValidExpr (D : Nat) (x : Ex) (cs : List Value) (F : List Nat) (w : World) (h : ExR D w x cs F) (hbk : bulkE D x ≤ 1048576) :
    Calls Tryz.prog 117 #[.agg cs.toArray] w fun en w' => en = .returned (.bool (validE D x)) ∧ Below w.heap.size w w' := by
  have hcb := cnt_le_bulk D x
  have hcn := cntE_nonneg D x
  have hdp := depE_le D x
  have hcx : cntE D x ≤ 2097152 := by omega
  have HFe := hide ((ExR.good D).lt h)
  obtain ⟨v0, v1, v2, v3, v4, v5, v6, rfl⟩ := list7 ((ExR.good D).len h)
  have HX0 : Hid (∀ W : World, Below w.heap.size w W → ExR D W x [v0, v1, v2, v3, v4, v5, v6] F) := hide fun W hW => (ExR.good D).below h hW HFe.out
  obtain ⟨C, hz0, hw0⟩ := boxes1 w [v0, v1, v2, v3, v4, v5, v6] 86
  show Calls _ _ #[.agg #[v0, v1, v2, v3, v4, v5, v6]] w _
  clear h hbk hcb
  go_enter Tryz.func117, Tryz.ntmps117
  go_wp2_with fail
  generalize w.alloc (Obj.cells #[v0, v1, v2, v3, v4, v5, v6] 86) = W0 at C hz0 hw0 ⊢
  have hn0 : w.heap.size + 1 ≤ W0.heap.size := by omega
  have Hw : Hid (∀ W : World, Below (w.heap.size + 1) W0 W → Below w.heap.size w W) := hide fun W h => hw0.trans (h.mono (by omega))
  have HX : Hid (∀ W : World, Below (w.heap.size + 1) W0 W → ExR D W x [v0, v1, v2, v3, v4, v5, v6] F) := hide fun W h => HX0.out W (Hw.out W h)
  have hB0 : Below (w.heap.size + 1) W0 W0 := Below.refl _ _
  have e0 := cell_rule C (n := w.heap.size + 1) (by omega) 0 (v := v0) rfl
  have e1 := cell_rule C (n := w.heap.size + 1) (by omega) 1 (v := v1) rfl
  have e2 := cell_rule C (n := w.heap.size + 1) (by omega) 2 (v := v2) rfl
  have e3 := cell_rule C (n := w.heap.size + 1) (by omega) 3 (v := v3) rfl
  have e4 := cell_rule C (n := w.heap.size + 1) (by omega) 4 (v := v4) rfl
  have e5 := cell_rule C (n := w.heap.size + 1) (by omega) 5 (v := v5) rfl
  have e6 := cell_rule C (n := w.heap.size + 1) (by omega) 6 (v := v6) rfl
  clear C hz0 hw0 HX0
  refine Calls.mono (i_CountExpr D x _ F _ (HX.out _ hB0) (by omega)) ?_
  rintro en W1 ⟨rfl, hb⟩
  have hB1 : Below (w.heap.size + 1) W0 W1 := below_step hB0 hn0 hb
  clear hb
  have hcc : decide (cntE D x ≤ 24) = decide (cntE D x ≤ 24) := rfl
  have Hv : Hid (validE D x = (decide (cntE D x ≤ 24) && (decide (depE D x ≤ 6) && allE okN D x))) := hide (by unfold validE; rw [hcc])
  clear hcc 
  by_cases h1 : cntE D x ≤ 24
  · go_wp2_with fail
    refine Calls.mono (i_DepthOfExpr D x _ F _ (HX.out _ hB1) hcx) ?_
    rintro en W2 ⟨rfl, hb⟩
    have hB2 : Below (w.heap.size + 1) W0 W2 := below_step hB1 hn0 hb
    clear hb
    by_cases h2 : depE D x ≤ 6
    · go_wp2_with fail
      refine Calls.mono (evn_ok D x _ F _ (HX.out _ hB2)) ?_
      rintro en W3 ⟨rfl, hb⟩
      have hB3 : Below (w.heap.size + 1) W0 W3 := below_step hB2 hn0 hb
      clear hb
      go_wp2_with fail
      go_ret
      exact ⟨ret_bool (by rw [Hv.out, decide_eq_true (p := cntE D x ≤ 24) (by omega), decide_eq_true (p := depE D x ≤ 6) (by omega)]; rfl), Hw.out _ hB3⟩
    · go_wp2_with fail
      go_ret
      exact ⟨ret_bool (by rw [Hv.out, decide_eq_true (p := cntE D x ≤ 24) (by omega), decide_eq_false (p := depE D x ≤ 6) (by omega)]; rfl), Hw.out _ hB2⟩
  · go_wp2_with fail
    go_ret
    exact ⟨ret_bool (by rw [Hv.out, decide_eq_false (p := cntE D x ≤ 24) (by omega)]; rfl), Hw.out _ hB1⟩
end Go.Proofs.YthlhhnnlbpecnaaGreat
