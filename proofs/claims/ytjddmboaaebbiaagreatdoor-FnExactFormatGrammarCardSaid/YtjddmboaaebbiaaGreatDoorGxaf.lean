/- Several texts of one proof in one file: Expressions: levels, remote attributes. Valid expressions: both sides. Expressions as text: what the text is, and how long. Plain: no program. Attributes and symbols: how they lie in memory, their sizes, comparisons and copies. Symbols: an attribute sought by its name. Conditions: each theorem names its own. -/
import Derived.Test.YtjddmboaaebbiaaGreatDoorGxab
import Derived.Test.YtjddmboaaebbiaaGreatDoorGxae
import Derived.Test.YtjddmboaaebbiaaGreatDoorGxaa
import Derived.Test.YtjddmboaaebbiaaGreatDoorRows
import Derived.Deep.QuietTactic

/- Expressions: levels, remote attributes. Conditions: none beyond that the expression can be read. -/
namespace Go.Proofs.YtjddmboaaebbiaaGreatDoor
set_option linter.unusedSimpArgs false
set_option linter.unusedVariables false
set_option maxRecDepth 100000
open Go.RowKit Go.WideShapes

def lvN (n : Int) : Int := if n = 9 ∨ n = 10 then 1 else if n = 1 ∨ n = 2 ∨ n = 6 ∨ n = 8 then 2 else if n = 3 ∨ n = 7 then 3 else 4
def levH (h : ExH) : Int := if h.kind = 5 then 0 else if h.kind = 4 then lvN h.n else 4
set_option maxHeartbeats 800000 in
theorem s_LevelOf (d : Nat) (e : Ex) (cs : List Value) (F : List Nat) (w : World) (h : ExR d w e cs F) :
    Calls Tryz.prog 116 #[.agg cs.toArray] w fun en w' => en = .returned (.int .i64 (levH e.h)) ∧ Below w.heap.size w w' := by
  match d, h with
  | d + 1, h =>
  obtain ⟨A, cap, rfl, _, _, _, _⟩ := ex_form h
  obtain ⟨⟨k, n, p, t, s, m⟩, l⟩ := e
  show Calls _ _ #[.agg #[.int .i64 k, .int .i64 n, .int .i64 p, .int .i64 t, .string s, .string m, .slice A l.length cap]] w _
  generalize hq : levH (Ex.mk ⟨k, n, p, t, s, m⟩ l).h = q
  have Hq : Hid (levH ⟨k, n, p, t, s, m⟩ = q) := hide hq
  clear hq h
  go_enter Tryz.func116, Tryz.ntmps116
  go_wp2
  all_goals (go_ret; refine ⟨ret_int ?_, (Below.refl _ _).alloc (Nat.le_refl _) _⟩; rw [← Hq.out])
  all_goals (try simp only [beq_iff_eq, beq_eq_false_iff_ne, ne_eq] at *)
  all_goals (unfold levH lvN; simp only; (repeat' split) <;> first | rfl | omega)
set_option maxHeartbeats 800000 in
theorem i_LevelOf (d : Nat) (e : Ex) (cs : List Value) (F : List Nat) (w : World) (h : ExR d w e cs F) :
    Calls Tryz.prog 94 #[.agg cs.toArray] w fun en w' => en = .returned (.int .i64 (levH e.h)) ∧ Below w.heap.size w w' := by
  match d, h with
  | d + 1, h =>
  obtain ⟨A, cap, rfl, _, _, _, _⟩ := ex_form h
  obtain ⟨⟨k, n, p, t, s, m⟩, l⟩ := e
  show Calls _ _ #[.agg #[.int .i64 k, .int .i64 n, .int .i64 p, .int .i64 t, .string s, .string m, .slice A l.length cap]] w _
  generalize hq : levH (Ex.mk ⟨k, n, p, t, s, m⟩ l).h = q
  have Hq : Hid (levH ⟨k, n, p, t, s, m⟩ = q) := hide hq
  clear hq h
  go_enter Tryz.func94, Tryz.ntmps94
  go_wp2
  all_goals (go_ret; refine ⟨ret_int ?_, (Below.refl _ _).alloc (Nat.le_refl _) _⟩; rw [← Hq.out])
  all_goals (try simp only [beq_iff_eq, beq_eq_false_iff_ne, ne_eq] at *)
  all_goals (unfold levH lvN; simp only; (repeat' split) <;> first | rfl | omega)

/-- A node that fulfils something. -/
def anyE (P : Ex → Bool) : Nat → Ex → Bool
  | 0, _ => false
  | d + 1, e => e.args.any (anyE P d) || P e
theorem any_take_false {α : Type} {f : α → Bool} {xs : List α} {k : Nat} {x : α} (hx : xs[k]? = some x) (h : (xs.take k).any f = false) (hf : f x = false) : (xs.take (k + 1)).any f = false := by rw [take_snoc hx, List.any_append, h]; simp [hf]
theorem any_hit {α : Type} {f : α → Bool} {xs : List α} {k : Nat} {x : α} (hx : xs[k]? = some x) (hf : f x = true) : xs.any f = true := List.any_eq_true.2 ⟨x, List.mem_of_getElem? hx, hf⟩
def isRem (e : Ex) : Bool := e.h.kind == 8
/-- All nodes fulfil something. -/
def allE (P : Ex → Bool) : Nat → Ex → Bool
  | 0, _ => true
  | d + 1, e => P e && e.args.all (allE P d)
def notRem (e : Ex) : Bool := e.h.kind != 8
/-- Does every argument fulfil it? -1, or the index of one that does not. -/
def IdxOf_rem (l : List Ex) (d : Nat) (en : Ending) : Prop := (en = .returned (.int .i64 (-1)) ∧ l.all (allE notRem d) = true) ∨ ∃ r : Nat, en = .returned (.int .i64 r) ∧ l.all (allE notRem d) = false
theorem all_any (P Q : Ex → Bool) (hPQ : ∀ e, P e = !(Q e)) : ∀ d e, allE P d e = !(anyE Q d e)
  | 0, _ => rfl
  | d + 1, e => by
    simp only [allE, anyE]
    rw [hPQ e]
    have : e.args.all (allE P d) = !(e.args.any (anyE Q d)) := by
      rw [show allE P d = fun x => !(anyE Q d x) from funext (all_any P Q hPQ d)]
      simp [List.all_eq_not_any_not]
    rw [this]
    cases e.args.any (anyE Q d) <;> cases Q e <;> rfl
end Go.Proofs.YtjddmboaaebbiaaGreatDoor

/- Valid expressions: both sides. Conditions: the expression has at most the size 2^20. -/
namespace Go.Proofs.YtjddmboaaebbiaaGreatDoor
set_option linter.unusedSimpArgs false
set_option linter.unusedVariables false
set_option maxRecDepth 100000
open Go.RowKit Go.WideShapes
set_option linter.unusedVariables false

def EvN_ok (d : Nat) : Prop := ∀ (e : Ex) (cs : List Value) (F : List Nat) (w : World), ExR d w e cs F →
  Calls Tryz.prog 90 #[.agg cs.toArray, .func (.func 120) #[] #[]] w fun en w' => en = .returned (.bool (allE okN d e)) ∧ Below w.heap.size w w'
set_option maxRecDepth 100000 in
/-- The closure: an argument that fails. -/
theorem clo_ok {d : Nat} (hE : EvN_ok d) (e : Ex) (cs : List Value) (F : List Nat) (w : World) (B : Nat) (h : ExR d w e cs F) (hc : w.cell? ⟨B, 0, none⟩ = some (.func (.func 120) #[] #[])) (hF : ∀ b ∈ F, b < w.heap.size) :
    Calls Tryz.prog 122 #[.agg cs.toArray, .pointer (some ⟨B, 0, none⟩)] w fun en w' => en = .returned (.bool !(allE okN d e)) ∧ Below w.heap.size w w' := by
  match d, h with
  | d + 1, h =>
  obtain ⟨A, cap, rfl, hok, hl, hm, hs⟩ := ex_form h
  have HR := hide h
  have HF := hide hF
  have HE := hide hE
  obtain ⟨⟨k, n, p, t, s, m⟩, l⟩ := e
  have hlt := cell_lt hc
  simp only [Ex.args, Ex.h, ExH.cells] at HR
  show Calls _ _ #[.agg #[.int .i64 k, .int .i64 n, .int .i64 p, .int .i64 t, .string s, .string m, .slice A l.length cap], .pointer (some ⟨B, 0, none⟩)] w _
  generalize Ex.mk ⟨k, n, p, t, s, m⟩ l = e at HR ⊢
  clear h hs hok hl hm hE
  go_enter Tryz.func122, Tryz.ntmps122
  go_wp2_with fail
  refine Calls.mono (HE.out e _ F _ ((ExR.good (d + 1)).below HR.out ((Below.refl _ _).alloc (Nat.le_refl _) _) HF.out)) ?_
  rintro en w2 ⟨rfl, hb2⟩
  have HB2 : Hid (Below w.heap.size w w2) := hide (((Below.refl _ _).alloc (Nat.le_refl _) _).trans (hb2.mono (by simp)))
  clear hb2
  go_wp2_with fail
  go_ret
  exact ⟨rfl, HB2.out⟩

/-- Does every argument fulfil it? -1, or the index of one that does not. -/
def IdxOf_ok (l : List Ex) (d : Nat) (en : Ending) : Prop := (en = .returned (.int .i64 (-1)) ∧ l.all (allE okN d) = true) ∨ ∃ r : Nat, en = .returned (.int .i64 r) ∧ l.all (allE okN d) = false
theorem idx_ok {d : Nat} (hE : EvN_ok d) (l : List Ex) (A : Option Addr) (cap : Nat) (F : List Nat) (w : World) (B : Nat) (hs : SlR 7 (ExR d) w l (.slice A l.length cap) F) (hc : w.cell? ⟨B, 0, none⟩ = some (.func (.func 120) #[] #[])) :
    Calls Tryz.prog 136 #[.slice A l.length cap, .func (.func 122) #[] #[.pointer (some ⟨B, 0, none⟩)]] w fun en w' => IdxOf_ok l d en ∧ Below w.heap.size w w' := by
  have HF := hide (hs.lt (ExR.good d))
  obtain ⟨_, hlc, hm⟩ := hs.bnd
  unfold maxLen at hm
  have Hs := hide hs
  have HE := hide hE
  have hBlt := cell_lt hc
  have Hc := hide hc
  clear hs hE hc
  go_enter Tryz.func136, Tryz.ntmps136
  go_wp2_with fail
  go_loopw [8] (fun i wr => ∃ j : Nat, j ≤ l.length ∧ i = .int .i64 j ∧ Hid ((l.take j).all (allE okN d) = true) ∧ Hid (Below w.heap.size w wr)) (fun i _ => l.length - (intOf i).toNat)
  case atStart => exact ⟨0, by omega, rfl, hide rfl, hide (Below.refl _ _)⟩
  case round =>
    obtain ⟨j, hj, rfl, Hall, Hb⟩ := hrel
    by_cases hlt : j < l.length
    · have hx : l[j]? = some l[j] := List.getElem?_eq_getElem hlt
      generalize l[j] = x at hx
      have Hx := hide hx
      obtain ⟨b, off, A', cap', Fk, hA, hbF, hFk, _, hl', hm', hcat, hR⟩ := ex_get (Hs.out.below (ExR.good d) Hb.out HF.out) hx
      subst hA
      obtain ⟨e0, e1, e2, e3, e4, e5, e6⟩ := hcat.seven
      have hblt := Nat.lt_of_lt_of_le (HF.out b hbF) Hb.out.size
      have HR := hide hR
      have HFk : Hid (∀ i ∈ Fk, i < wr.heap.size) := hide fun i hi => Nat.lt_of_lt_of_le (HF.out i (hFk i hi)) Hb.out.size
      have Hcw : Hid (wr.cell? ⟨B, 0, none⟩ = some (.func (.func 120) #[] #[])) := hide ((Hb.out.cell (p := ⟨B, 0, none⟩) hBlt).trans Hc.out)
      clear hx hR hcat hFk hbF hl' hm'
      go_wp2_with fail
      refine Calls.mono (clo_ok HE.out x _ Fk _ B HR.out Hcw.out HFk.out) ?_
      rintro en w2 ⟨rfl, hb2⟩
      have HB2 : Hid (Below w.heap.size w w2) := hide (Hb.out.trans (hb2.mono Hb.out.size))
      clear hb2
      cases hxr : allE okN d x
      · have Hbad : Hid (l.all (allE okN d) = false) := hide (by rw [Bool.eq_false_iff]; intro h; have := List.all_eq_true.1 h x (List.mem_of_getElem? Hx.out); rw [hxr] at this; cases this)
        clear hxr
        go_wp2_with fail
        go_ret
        exact ⟨.inr ⟨j, rfl, Hbad.out⟩, HB2.out⟩
      · have Hxr := hide hxr
        clear hxr
        go_wp2_with fail
        go_roundw
        case rel => exact ⟨j + 1, by omega, by go_num, hide (by rw [take_snoc Hx.out, List.all_append, Hall.out]; simp [Hxr.out]), HB2⟩
        case measure => simp [intOf]; omega
    · have hjl : j = l.length := by omega
      have Hall' : Hid (l.all (allE okN d) = true) := hide (by have := Hall.out; rw [hjl, List.take_length] at this; exact this)
      go_wp2_with fail
      go_ret
      exact ⟨.inl ⟨rfl, Hall'.out⟩, Hb.out⟩
theorem con_ok {d : Nat} (hE : EvN_ok d) (l : List Ex) (A : Option Addr) (cap : Nat) (F : List Nat) (w : World) (B : Nat) (hs : SlR 7 (ExR d) w l (.slice A l.length cap) F) (hc : w.cell? ⟨B, 0, none⟩ = some (.func (.func 120) #[] #[])) :
    Calls Tryz.prog 121 #[.slice A l.length cap, .func (.func 122) #[] #[.pointer (some ⟨B, 0, none⟩)]] w fun en w' => en = .returned (.bool !(l.all (allE okN d))) ∧ Below w.heap.size w w' := by
  have HI := hide (idx_ok hE l A cap F w B hs hc)
  clear hE hs hc
  go_enter Tryz.func121, Tryz.ntmps121
  go_wp2_with fail
  refine Calls.mono HI.out ?_
  rintro en w2 ⟨hr, hb2⟩
  have HB2 := hide hb2
  clear hb2
  rcases hr with ⟨rfl, ha⟩ | ⟨r, rfl, ha⟩
  all_goals
    have Ha := hide ha
    clear ha
    go_wp2_with fail
    go_ret
    exact ⟨ret_bool (by rw [Ha.out]; first | rfl | simp), HB2.out⟩
theorem evn_ok : ∀ d, EvN_ok d
  | 0 => fun _ _ _ _ h => h.elim
  | d + 1 => fun e cs F w h => by
    obtain ⟨A, cap, rfl, hok, hl, hm, hs⟩ := ex_form h
    have HF := hide (hs.lt (ExR.good d))
    have HFe := hide ((ExR.good (d + 1)).lt h)
    have H := hide h
    generalize hq : allE okN (d + 1) e = q
    have hq' : (okN e && e.args.all (allE okN d)) = q := hq
    have Hq := hide hq'
    have HP : Hid (∀ W : World, Below w.heap.size w W → Calls Tryz.prog 120 #[.agg (e.h.cells (.slice A e.args.length cap)).toArray] W fun en w' => en = .returned (.bool (okN e)) ∧ Below W.heap.size W w') := hide fun W hW => i_okN e _ F W ((ExR.good (d + 1)).below H.out hW HFe.out)
    obtain ⟨⟨k, n, p, t, s, m⟩, l⟩ := e
    simp only [Ex.args, Ex.h, ExH.cells] at hs hl HF HFe H Hq HP
    generalize okN (Ex.mk ⟨k, n, p, t, s, m⟩ l) = pe at HP Hq
    have HS : Hid (∀ (W : World) (B : Nat), Below w.heap.size w W → W.cell? ⟨B, 0, none⟩ = some (.func (.func 120) #[] #[]) → Calls Tryz.prog 121 #[.slice A l.length cap, .func (.func 122) #[] #[.pointer (some ⟨B, 0, none⟩)]] W fun en w' => en = .returned (.bool !(l.all (allE okN d))) ∧ Below W.heap.size W w') := hide fun W B hW hc =>
      con_ok (evn_ok d) l A cap F W B (hs.below (ExR.good d) hW HF.out) hc
    show Calls _ _ #[.agg #[.int .i64 k, .int .i64 n, .int .i64 p, .int .i64 t, .string s, .string m, .slice A l.length cap], .func (.func 120) #[] #[]] w _
    clear hs hok h hq hq' hl hm
    have HC := hide (CellsAt.new w [.int .i64 k, .int .i64 n, .int .i64 p, .int .i64 t, .string s, .string m, .slice A l.length cap] 59)
    have HI := hide (CellsAt.new (w.alloc (.cells #[.int .i64 k, .int .i64 n, .int .i64 p, .int .i64 t, .string s, .string m, .slice A l.length cap] 59)) [.func (.func 120) #[] #[]] 98)
    cases pe
    · have Hq2 : Hid (q = false) := hide (by rw [← Hq.out]; rfl)
      go_enter Tryz.func90, Tryz.ntmps90
      go_wp2_with fail
      refine Calls.mono (HP.out _ (((Below.refl _ _).alloc (Nat.le_refl _) _).alloc (by simp) _)) ?_
      rintro en w2 ⟨rfl, hb2⟩
      have HB2 : Hid (Below w.heap.size w w2) := hide ((((Below.refl _ _).alloc (Nat.le_refl _) _).alloc (by simp) _).trans (hb2.mono (by simp; omega)))
      clear hb2
      go_wp2_with fail
      go_ret
      exact ⟨ret_bool Hq2.out.symm, HB2.out⟩
    · have Hq2 : Hid (q = l.all (allE okN d)) := hide (by rw [← Hq.out]; rfl)
      go_enter Tryz.func90, Tryz.ntmps90
      go_wp2_with fail
      refine Calls.mono (HP.out _ (((Below.refl _ _).alloc (Nat.le_refl _) _).alloc (by simp) _)) ?_
      rintro en w2 ⟨rfl, hb2⟩
      have HB2 : Hid (Below w.heap.size w w2) := hide ((((Below.refl _ _).alloc (Nat.le_refl _) _).alloc (by simp) _).trans (hb2.mono (by simp; omega)))
      obtain ⟨_, _, _, _, _, _, c6⟩ := ((HC.out.below ((Below.refl (w.heap.size + 1) _).alloc (by simp) _) (by omega)).below hb2 (by simp; omega)).seven0
      have hcB : w2.cell? ⟨w.heap.size + 1, 0, none⟩ = some (.func (.func 120) #[] #[]) := by
        have := (HI.out.below hb2 (by simp)) 0 _ rfl
        simpa using this
      have HcB := hide hcB
      clear hb2 hcB
      go_wp2_with fail
      refine Calls.mono (HS.out _ _ HB2.out HcB.out) ?_
      rintro en w3 ⟨rfl, hb3⟩
      have HB3 : Hid (Below w.heap.size w w3) := hide (HB2.out.trans (hb3.mono HB2.out.size))
      clear hb3
      go_wp2_with fail
      go_ret
      exact ⟨ret_bool (by rw [Hq2.out]; first | done | simp), HB3.out⟩

theorem all_take {α : Type} {f : α → Bool} {xs : List α} {k : Nat} {x : α} (hx : xs[k]? = some x) (h : (xs.take k).all f = true) (hf : f x = true) : (xs.take (k + 1)).all f = true := by rw [take_snoc hx, List.all_append, h]; simp [hf]
theorem all_miss {α : Type} {f : α → Bool} {xs : List α} {k : Nat} {x : α} (hx : xs[k]? = some x) (hf : f x = false) : xs.all f = false := by
  rw [List.all_eq_false]
  exact ⟨x, List.mem_of_getElem? hx, by simp [hf]⟩
set_option maxRecDepth 100000 in
theorem s_l4All : ∀ (d : Nat) (e : Ex) (cs : List Value) (F : List Nat) (w : World), ExR d w e cs F →
    Calls Tryz.prog 80 #[.agg cs.toArray] w fun en w' => en = .returned (.bool (allE okN d e)) ∧ Below w.heap.size w w'
  | 0, _, _, _, _, h => h.elim
  | d + 1, e, cs, F, w, h => by
    obtain ⟨A, cap, rfl, hok, hl, hm, hs⟩ := ex_form h
    have HF := hide (hs.lt (ExR.good d))
    have HFe := hide ((ExR.good (d + 1)).lt h)
    have He := hide h
    generalize hq : allE okN (d + 1) e = q
    have hq' : (okN e && e.args.all (allE okN d)) = q := hq
    have HQ := hide hq'
    clear hq hq'
    obtain ⟨⟨k, n, p, t, s, m⟩, l⟩ := e
    unfold maxLen at hm
    simp only [Ex.args, Ex.h, ExH.cells] at hs hl hm HF HFe He HQ
    have hll : l.length ≤ 9223372036854775807 := by omega
    have Hs := hide hs
    obtain ⟨C, hz0, hw0⟩ := boxes1 w [.int .i64 k, .int .i64 n, .int .i64 p, .int .i64 t, .string s, .string m, .slice A l.length cap] 59
    have Hxe : Hid (∀ W : World, Below w.heap.size w W → ExR (d + 1) W (.mk ⟨k, n, p, t, s, m⟩ l) [.int .i64 k, .int .i64 n, .int .i64 p, .int .i64 t, .string s, .string m, .slice A l.length cap] F) := hide fun W hW => (ExR.good (d + 1)).below He.out hW HFe.out
    clear hs hok h hl hm He
    show Calls _ _ #[.agg #[.int .i64 k, .int .i64 n, .int .i64 p, .int .i64 t, .string s, .string m, .slice A l.length cap]] w _
    go_enter Tryz.func80, Tryz.ntmps80
    go_wp2_with fail
    generalize w.alloc (Obj.cells #[.int .i64 k, .int .i64 n, .int .i64 p, .int .i64 t, .string s, .string m, .slice A l.length cap] 59) = W0 at C hz0 hw0 ⊢
    have hn0 : w.heap.size + 1 ≤ W0.heap.size := by omega
    have Hw : Hid (∀ W : World, Below (w.heap.size + 1) W0 W → Below w.heap.size w W) := hide fun W h => hw0.trans (h.mono (by omega))
    have Hx : Hid (∀ W : World, Below (w.heap.size + 1) W0 W → ExR (d + 1) W (.mk ⟨k, n, p, t, s, m⟩ l) [.int .i64 k, .int .i64 n, .int .i64 p, .int .i64 t, .string s, .string m, .slice A l.length cap] F) := hide fun W h => Hxe.out W (Hw.out W h)
    have e0 := cell_rule C (n := w.heap.size + 1) (by omega) 0 (v := .int .i64 k) rfl
    have e1 := cell_rule C (n := w.heap.size + 1) (by omega) 1 (v := .int .i64 n) rfl
    have e2 := cell_rule C (n := w.heap.size + 1) (by omega) 2 (v := .int .i64 p) rfl
    have e3 := cell_rule C (n := w.heap.size + 1) (by omega) 3 (v := .int .i64 t) rfl
    have e4 := cell_rule C (n := w.heap.size + 1) (by omega) 4 (v := .string s) rfl
    have e5 := cell_rule C (n := w.heap.size + 1) (by omega) 5 (v := .string m) rfl
    have e6 := cell_rule C (n := w.heap.size + 1) (by omega) 6 (v := .slice A l.length cap) rfl
    clear C hz0 hw0 Hxe
    go_loopw [3] (fun i wr => ∃ j : Nat, j ≤ l.length ∧ i = .int .i64 j ∧ Hid ((l.take j).all (allE okN d) = true) ∧ Hid (Below (w.heap.size + 1) W0 wr)) (fun i _ => l.length - (intOf i).toNat)
    case atStart => exact ⟨0, by omega, rfl, hide rfl, hide (Below.refl _ _)⟩
    case round =>
      obtain ⟨j, hj, rfl, Hall, Hb⟩ := hrel
      have hBr := Hb.out
      by_cases hlt : j < l.length
      · have hx : l[j]? = some l[j] := List.getElem?_eq_getElem hlt
        generalize l[j] = x at hx
        have HX := hide hx
        obtain ⟨b, off, cs, Fk, hA, _, hbF, hFk, hcl, hcat, hR⟩ := SlR.get (ExR.good d) (Hs.out.below (ExR.good d) (Hw.out _ Hb.out) HF.out) hx
        subst hA
        obtain ⟨c0, c1, c2, c3, c4, c5, c6, rfl⟩ := list7 hcl
        obtain ⟨g0, g1, g2, g3, g4, g5, g6⟩ := hcat.seven
        have hblt := Nat.lt_of_lt_of_le (HF.out b hbF) (Hw.out _ Hb.out).size
        have HR := hide hR
        have hj0 : (0 : Int) ≤ (j : Int) := by omega
        have hj1 : (j : Int) < (l.length : Int) := by omega
        clear hx hR hcat hFk hbF hcl
        go_wp2_with fail
        refine Calls.mono (s_l4All d x _ Fk _ HR.out) ?_
        rintro en w2 ⟨rfl, hb2⟩
        have hB2 : Below (w.heap.size + 1) W0 w2 := below_step Hb.out hn0 hb2
        clear hb2
        cases hxr : allE okN d x
        · have Hq2 : Hid (q = false) := hide (by rw [← HQ.out, all_miss HX.out hxr]; simp)
          go_wp2_with fail
          go_ret
          exact ⟨ret_bool Hq2.out.symm, Hw.out _ hB2⟩
        · have Hxr := hide hxr
          have HB2 := hide hB2
          clear hxr hB2
          go_wp2_with fail
          go_roundw
          case rel => exact ⟨j + 1, by omega, by go_num, hide (all_take HX.out Hall.out Hxr.out), HB2⟩
          case measure => simp [intOf]; omega
      · have hjl : j = l.length := by omega
        have Hq2 : Hid (q = okN (.mk ⟨k, n, p, t, s, m⟩ l)) := hide (by have := Hall.out; rw [hjl, List.take_length] at this; rw [← HQ.out, this]; simp)
        go_wp2_with fail
        refine Calls.mono (s_okN _ _ F _ (Hx.out _ Hb.out)) ?_
        rintro en w2 ⟨rfl, hb2⟩
        have HB2 : Hid (Below (w.heap.size + 1) W0 w2) := hide (below_step Hb.out hn0 hb2)
        clear hb2
        go_wp2_with fail
        go_ret
        exact ⟨ret_bool Hq2.out.symm, Hw.out _ HB2.out⟩
def LeftOk (L c : Int) (e : Ending) : Prop := ∃ r : Int, e = .returned (.int .i64 r) ∧ ((0 ≤ r ∧ r = L - c) ∨ (r < 0 ∧ L < c))
set_option maxRecDepth 100000 in
theorem s_l4Left : ∀ (d : Nat) (e : Ex) (cs : List Value) (F : List Nat) (w : World) (L : Int), ExR d w e cs F → 0 ≤ L → L ≤ 1048576 →
    Calls Tryz.prog 78 #[.agg cs.toArray, .int .i64 L] w fun en w' => LeftOk L (cntE d e) en ∧ Below w.heap.size w w'
  | 0, _, _, _, _, _, h, _, _ => h.elim
  | d + 1, e, cs, F, w, L, h, h0, h1 => by
    obtain ⟨A, cap, rfl, hok, hl, hm, hs⟩ := ex_form h
    have HF := hide (hs.lt (ExR.good d))
    have HFe := hide ((ExR.good (d + 1)).lt h)
    have He := hide h
    have HQ := hide (show cntE (d + 1) e = 1 + sumBy (cntE d) e.args from rfl)
    obtain ⟨⟨k, n, p, t, s, m⟩, l⟩ := e
    unfold maxLen at hm
    simp only [Ex.args, Ex.h, ExH.cells] at hs hl hm HF HFe He HQ
    have hll : l.length ≤ 9223372036854775807 := by omega
    have Hs := hide hs
    obtain ⟨C, hz0, hw0⟩ := boxes1 w [.int .i64 k, .int .i64 n, .int .i64 p, .int .i64 t, .string s, .string m, .slice A l.length cap] 59
    have Hxe : Hid (∀ W : World, Below w.heap.size w W → ExR (d + 1) W (.mk ⟨k, n, p, t, s, m⟩ l) [.int .i64 k, .int .i64 n, .int .i64 p, .int .i64 t, .string s, .string m, .slice A l.length cap] F) := hide fun W hW => (ExR.good (d + 1)).below He.out hW HFe.out
    clear hs hok h hl hm He
    show Calls _ _ #[.agg #[.int .i64 k, .int .i64 n, .int .i64 p, .int .i64 t, .string s, .string m, .slice A l.length cap], .int .i64 L] w _
    have Hnn := hide (cntE_nonneg d)
    go_enter Tryz.func78, Tryz.ntmps78
    go_wp2_with fail
    generalize w.alloc (Obj.cells #[.int .i64 k, .int .i64 n, .int .i64 p, .int .i64 t, .string s, .string m, .slice A l.length cap] 59) = W0 at C hz0 hw0 ⊢
    have hn0 : w.heap.size + 1 ≤ W0.heap.size := by omega
    have Hw : Hid (∀ W : World, Below (w.heap.size + 1) W0 W → Below w.heap.size w W) := hide fun W h => hw0.trans (h.mono (by omega))
    have Hx : Hid (∀ W : World, Below (w.heap.size + 1) W0 W → ExR (d + 1) W (.mk ⟨k, n, p, t, s, m⟩ l) [.int .i64 k, .int .i64 n, .int .i64 p, .int .i64 t, .string s, .string m, .slice A l.length cap] F) := hide fun W h => Hxe.out W (Hw.out W h)
    have e0 := cell_rule C (n := w.heap.size + 1) (by omega) 0 (v := .int .i64 k) rfl
    have e1 := cell_rule C (n := w.heap.size + 1) (by omega) 1 (v := .int .i64 n) rfl
    have e2 := cell_rule C (n := w.heap.size + 1) (by omega) 2 (v := .int .i64 p) rfl
    have e3 := cell_rule C (n := w.heap.size + 1) (by omega) 3 (v := .int .i64 t) rfl
    have e4 := cell_rule C (n := w.heap.size + 1) (by omega) 4 (v := .string s) rfl
    have e5 := cell_rule C (n := w.heap.size + 1) (by omega) 5 (v := .string m) rfl
    have e6 := cell_rule C (n := w.heap.size + 1) (by omega) 6 (v := .slice A l.length cap) rfl
    clear C hz0 hw0 Hxe
    go_loopw [1, 5] (fun lv i wr => ∃ (j : Nat) (c : Int), j ≤ l.length ∧ i = .int .i64 j ∧ lv = .int .i64 c ∧ c ≤ 1048576 ∧ Hid ((0 ≤ c ∧ c = L - 1 - sumBy (cntE d) (l.take j)) ∨ (c < 0 ∧ L - 1 < sumBy (cntE d) (l.take j))) ∧ Hid (Below (w.heap.size + 1) W0 wr)) (fun _ i _ => l.length - (intOf i).toNat)
    case atStart => exact ⟨0, L - 1, by omega, rfl, rfl, by omega, hide (by simp [sumBy]; omega), hide (Below.refl _ _)⟩
    case round =>
      obtain ⟨j, c, hj, rfl, rfl, hc1, Hc, Hb⟩ := hrel
      have hBr := Hb.out
      by_cases hlt : j < l.length
      case neg =>
        have hjl : j = l.length := by omega
        have Hfin : Hid ((0 ≤ c ∧ c = L - (1 + sumBy (cntE d) l)) ∨ (c < 0 ∧ L < 1 + sumBy (cntE d) l)) := hide (by have := Hc.out; rw [hjl, List.take_length] at this; omega)
        go_wp2_with fail
        go_ret
        exact ⟨⟨_, rfl, by rw [HQ.out]; exact Hfin.out⟩, Hw.out _ Hb.out⟩
      by_cases hc0 : 0 ≤ c
      · have hx : l[j]? = some l[j] := List.getElem?_eq_getElem hlt
        generalize l[j] = x at hx
        have HX := hide hx
        obtain ⟨b, off, cs, Fk, hA, _, hbF, hFk, hcl, hcat, hR⟩ := SlR.get (ExR.good d) (Hs.out.below (ExR.good d) (Hw.out _ Hb.out) HF.out) hx
        subst hA
        obtain ⟨c0, c1, c2, c3, c4, c5, c6, rfl⟩ := list7 hcl
        obtain ⟨g0, g1, g2, g3, g4, g5, g6⟩ := hcat.seven
        have hblt := Nat.lt_of_lt_of_le (HF.out b hbF) (Hw.out _ Hb.out).size
        have HR := hide hR
        have hj0 : (0 : Int) ≤ (j : Int) := by omega
        have hj1 : (j : Int) < (l.length : Int) := by omega
        clear hx hR hcat hFk hbF hcl
        have Hsum := hide (sumBy_take_succ (f := cntE d) HX.out)
        go_wp2_with fail
        refine Calls.mono (s_l4Left d x _ Fk _ c HR.out hc0 hc1) ?_
        rintro en w2 ⟨⟨r, rfl, hr⟩, hb2⟩
        have HB2 : Hid (Below (w.heap.size + 1) W0 w2) := hide (below_step Hb.out hn0 hb2)
        have Hc2 : Hid ((0 ≤ r ∧ r = L - 1 - sumBy (cntE d) (l.take (j + 1))) ∨ (r < 0 ∧ L - 1 < sumBy (cntE d) (l.take (j + 1)))) := hide (by rw [Hsum.out]; have := Hc.out; omega)
        have hr1 : r ≤ 1048576 := by have := Hnn.out x; omega
        clear hb2 hr
        go_wp2_with fail
        go_roundw
        case rel => exact ⟨j + 1, r, by omega, by go_num, rfl, hr1, Hc2, HB2⟩
        case measure => simp [intOf]; omega
      · have Hfin : Hid (c < 0 ∧ L < 1 + sumBy (cntE d) l) := hide (by have := Hc.out; have := sumBy_take_le Hnn.out l j; omega)
        have hc0' : c < 0 := by omega
        go_wp2_with fail
        go_ret
        exact ⟨⟨_, rfl, by rw [HQ.out]; exact .inr Hfin.out⟩, Hw.out _ Hb.out⟩
def validE (D : Nat) (e : Ex) : Bool := decide (cntE D e ≤ 24) && (decide (depE D e ≤ 6) && allE okN D e)
set_option maxRecDepth 100000 in
set_option maxHeartbeats 1000000 in
theorem s_IsValidExpr (D : Nat) (x : Ex) (cs : List Value) (F : List Nat) (w : World) (h : ExR D w x cs F) (hbk : bulkE D x ≤ 1048576) :
    Calls Tryz.prog 51 #[.agg cs.toArray] w fun en w' => en = .returned (.bool (validE D x)) ∧ Below w.heap.size w w' := by
  have hcb := cnt_le_bulk D x
  have hcn := cntE_nonneg D x
  have hdp := depE_le D x
  have hcx : cntE D x ≤ 2097152 := by omega
  have HFe := hide ((ExR.good D).lt h)
  obtain ⟨v0, v1, v2, v3, v4, v5, v6, rfl⟩ := list7 ((ExR.good D).len h)
  have HX0 : Hid (∀ W : World, Below w.heap.size w W → ExR D W x [v0, v1, v2, v3, v4, v5, v6] F) := hide fun W hW => (ExR.good D).below h hW HFe.out
  obtain ⟨C, hz0, hw0⟩ := boxes1 w [v0, v1, v2, v3, v4, v5, v6] 59
  show Calls _ _ #[.agg #[v0, v1, v2, v3, v4, v5, v6]] w _
  clear h hbk hcb
  go_enter Tryz.func51, Tryz.ntmps51
  go_wp2_with fail
  generalize w.alloc (Obj.cells #[v0, v1, v2, v3, v4, v5, v6] 59) = W0 at C hz0 hw0 ⊢
  have hn0 : w.heap.size + 1 ≤ W0.heap.size := by omega
  have Hw : Hid (∀ W : World, Below (w.heap.size + 1) W0 W → Below w.heap.size w W) := hide fun W h => hw0.trans (h.mono (by omega))
  have HX : Hid (∀ W : World, Below (w.heap.size + 1) W0 W → ExR D W x [v0, v1, v2, v3, v4, v5, v6] F) := hide fun W h => HX0.out W (Hw.out W h)
  have hB0 : Below (w.heap.size + 1) W0 W0 := Below.refl _ _
  have e0 := cell_rule C (n := w.heap.size + 1) (by omega) 0 (v := v0) rfl
  have e1 := cell_rule C (n := w.heap.size + 1) (by omega) 1 (v := v1) rfl
  have e2 := cell_rule C (n := w.heap.size + 1) (by omega) 2 (v := v2) rfl
  have e3 := cell_rule C (n := w.heap.size + 1) (by omega) 3 (v := v3) rfl
  have e4 := cell_rule C (n := w.heap.size + 1) (by omega) 4 (v := v4) rfl
  have e5 := cell_rule C (n := w.heap.size + 1) (by omega) 5 (v := v5) rfl
  have e6 := cell_rule C (n := w.heap.size + 1) (by omega) 6 (v := v6) rfl
  clear C hz0 hw0 HX0
  refine Calls.mono (s_l4Left D x _ F _ 24 (HX.out _ hB0) (by omega) (by omega)) ?_
  rintro en W1 ⟨⟨r, rfl, hr⟩, hb⟩
  have hB1 : Below (w.heap.size + 1) W0 W1 := below_step hB0 hn0 hb
  clear hb
  have hcc : decide (cntE D x ≤ 24) = decide (0 ≤ r) := by rw [Bool.eq_iff_iff]; simp; omega
  have Hv : Hid (validE D x = (decide (0 ≤ r) && (decide (depE D x ≤ 6) && allE okN D x))) := hide (by unfold validE; rw [hcc])
  clear hcc hr
  by_cases h1 : 0 ≤ r
  · go_wp2_with fail
    refine Calls.mono (s_DepthOfExpr D x _ F _ (HX.out _ hB1) hcx) ?_
    rintro en W2 ⟨rfl, hb⟩
    have hB2 : Below (w.heap.size + 1) W0 W2 := below_step hB1 hn0 hb
    clear hb
    by_cases h2 : depE D x ≤ 6
    · go_wp2_with fail
      refine Calls.mono (s_l4All D x _ F _ (HX.out _ hB2)) ?_
      rintro en W3 ⟨rfl, hb⟩
      have hB3 : Below (w.heap.size + 1) W0 W3 := below_step hB2 hn0 hb
      clear hb
      go_wp2_with fail
      go_ret
      exact ⟨ret_bool (by rw [Hv.out, decide_eq_true (p := 0 ≤ r) (by omega), decide_eq_true (p := depE D x ≤ 6) (by omega)]; rfl), Hw.out _ hB3⟩
    · go_wp2_with fail
      go_ret
      exact ⟨ret_bool (by rw [Hv.out, decide_eq_true (p := 0 ≤ r) (by omega), decide_eq_false (p := depE D x ≤ 6) (by omega)]; rfl), Hw.out _ hB2⟩
  · go_wp2_with fail
    go_ret
    exact ⟨ret_bool (by rw [Hv.out, decide_eq_false (p := 0 ≤ r) (by omega)]; rfl), Hw.out _ hB1⟩
set_option maxRecDepth 100000 in
set_option maxHeartbeats 1000000 in
theorem i_IsValidExpr (D : Nat) (x : Ex) (cs : List Value) (F : List Nat) (w : World) (h : ExR D w x cs F) (hbk : bulkE D x ≤ 1048576) :
    Calls Tryz.prog 89 #[.agg cs.toArray] w fun en w' => en = .returned (.bool (validE D x)) ∧ Below w.heap.size w w' := by
  have hcb := cnt_le_bulk D x
  have hcn := cntE_nonneg D x
  have hdp := depE_le D x
  have hcx : cntE D x ≤ 2097152 := by omega
  have HFe := hide ((ExR.good D).lt h)
  obtain ⟨v0, v1, v2, v3, v4, v5, v6, rfl⟩ := list7 ((ExR.good D).len h)
  have HX0 : Hid (∀ W : World, Below w.heap.size w W → ExR D W x [v0, v1, v2, v3, v4, v5, v6] F) := hide fun W hW => (ExR.good D).below h hW HFe.out
  obtain ⟨C, hz0, hw0⟩ := boxes1 w [v0, v1, v2, v3, v4, v5, v6] 59
  show Calls _ _ #[.agg #[v0, v1, v2, v3, v4, v5, v6]] w _
  clear h hbk hcb
  go_enter Tryz.func89, Tryz.ntmps89
  go_wp2_with fail
  generalize w.alloc (Obj.cells #[v0, v1, v2, v3, v4, v5, v6] 59) = W0 at C hz0 hw0 ⊢
  have hn0 : w.heap.size + 1 ≤ W0.heap.size := by omega
  have Hw : Hid (∀ W : World, Below (w.heap.size + 1) W0 W → Below w.heap.size w W) := hide fun W h => hw0.trans (h.mono (by omega))
  have HX : Hid (∀ W : World, Below (w.heap.size + 1) W0 W → ExR D W x [v0, v1, v2, v3, v4, v5, v6] F) := hide fun W h => HX0.out W (Hw.out W h)
  have hB0 : Below (w.heap.size + 1) W0 W0 := Below.refl _ _
  have e0 := cell_rule C (n := w.heap.size + 1) (by omega) 0 (v := v0) rfl
  have e1 := cell_rule C (n := w.heap.size + 1) (by omega) 1 (v := v1) rfl
  have e2 := cell_rule C (n := w.heap.size + 1) (by omega) 2 (v := v2) rfl
  have e3 := cell_rule C (n := w.heap.size + 1) (by omega) 3 (v := v3) rfl
  have e4 := cell_rule C (n := w.heap.size + 1) (by omega) 4 (v := v4) rfl
  have e5 := cell_rule C (n := w.heap.size + 1) (by omega) 5 (v := v5) rfl
  have e6 := cell_rule C (n := w.heap.size + 1) (by omega) 6 (v := v6) rfl
  clear C hz0 hw0 HX0
  refine Calls.mono (i_CountExpr D x _ F _ (HX.out _ hB0) (by omega)) ?_
  rintro en W1 ⟨rfl, hb⟩
  have hB1 : Below (w.heap.size + 1) W0 W1 := below_step hB0 hn0 hb
  clear hb
  have hcc : decide (cntE D x ≤ 24) = decide (cntE D x ≤ 24) := rfl
  have Hv : Hid (validE D x = (decide (cntE D x ≤ 24) && (decide (depE D x ≤ 6) && allE okN D x))) := hide (by unfold validE; rw [hcc])
  clear hcc 
  by_cases h1 : cntE D x ≤ 24
  · go_wp2_with fail
    refine Calls.mono (i_DepthOfExpr D x _ F _ (HX.out _ hB1) hcx) ?_
    rintro en W2 ⟨rfl, hb⟩
    have hB2 : Below (w.heap.size + 1) W0 W2 := below_step hB1 hn0 hb
    clear hb
    by_cases h2 : depE D x ≤ 6
    · go_wp2_with fail
      refine Calls.mono (evn_ok D x _ F _ (HX.out _ hB2)) ?_
      rintro en W3 ⟨rfl, hb⟩
      have hB3 : Below (w.heap.size + 1) W0 W3 := below_step hB2 hn0 hb
      clear hb
      go_wp2_with fail
      go_ret
      exact ⟨ret_bool (by rw [Hv.out, decide_eq_true (p := cntE D x ≤ 24) (by omega), decide_eq_true (p := depE D x ≤ 6) (by omega)]; rfl), Hw.out _ hB3⟩
    · go_wp2_with fail
      go_ret
      exact ⟨ret_bool (by rw [Hv.out, decide_eq_true (p := cntE D x ≤ 24) (by omega), decide_eq_false (p := depE D x ≤ 6) (by omega)]; rfl), Hw.out _ hB2⟩
  · go_wp2_with fail
    go_ret
    exact ⟨ret_bool (by rw [Hv.out, decide_eq_false (p := cntE D x ≤ 24) (by omega)]; rfl), Hw.out _ hB1⟩
end Go.Proofs.YtjddmboaaebbiaaGreatDoor

/- Expressions as text: what the text is, and how long. Plain: no program. -/
namespace Go.Proofs.YtjddmboaaebbiaaGreatDoor
set_option linter.unusedSimpArgs false
set_option linter.unusedVariables false
set_option maxRecDepth 100000
open Go.RowKit Go.Lib
set_option linter.unusedVariables false

def opWs : List ByteArray := [⟨#[43]⟩, ⟨#[45]⟩, ⟨#[42]⟩, ⟨#[109, 97, 120]⟩, ⟨#[109, 105, 110]⟩, ⟨#[124]⟩, ⟨#[38]⟩, ⟨#[92]⟩, ⟨#[60]⟩, ⟨#[61, 61]⟩, ⟨#[104, 97, 115]⟩, ⟨#[119, 105, 116, 104]⟩]
def opW (n : Int) : ByteArray := opWs.getD (n.toNat - 1) ⟨#[]⟩
theorem opW_size (n : Int) : (opW n).size ≤ 4 := by
  unfold opW
  have h : ∀ x ∈ opWs, x.size ≤ 4 := by decide
  by_cases hk : n.toNat - 1 < opWs.length
  · rw [List.getD_eq_getElem?_getD, List.getElem?_eq_getElem hk]
    exact h _ (List.getElem_mem hk)
  · rw [List.getD_eq_getElem?_getD, List.getElem?_eq_none (by omega)]
    decide
/-- An operand: in brackets if its level is too low. -/
def atL (lv need : Int) (t : ByteArray) : ByteArray := if lv < need then ⟨#[40]⟩ ++ t ++ ⟨#[41]⟩ else t
theorem atL_size (lv need : Int) (t : ByteArray) : (atL lv need t).size ≤ t.size + 2 := by
  unfold atL
  split
  · simp only [ByteArray.size_append]
    show 1 + t.size + 1 ≤ _
    omega
  · omega
def txOp (n : Int) (t0 t1 : ByteArray) (l0 l1 : Int) : ByteArray :=
  if lvN n = 4 then opW n ++ ⟨#[40]⟩ ++ t0 ++ ⟨#[44, 32]⟩ ++ t1 ++ ⟨#[41]⟩ else atL l0 (max (lvN n) 2) t0 ++ ⟨#[32]⟩ ++ opW n ++ ⟨#[32]⟩ ++ atL l1 (lvN n + 1) t1
def txH (h : ExH) (t0 t1 t2 : ByteArray) (l0 l1 : Int) : ByteArray :=
  if h.kind = 1 then fmtTyped h.n h.type
  else if h.kind = 2 then ⟨#[108, 105, 116]⟩
  else if h.kind = 3 then ⟨#[36]⟩ ++ num h.pos ++ ⟨#[46]⟩ ++ h.name
  else if h.kind = 5 then ⟨#[105, 102, 32]⟩ ++ t0 ++ ⟨#[32, 116, 104, 101, 110, 32]⟩ ++ t1 ++ ⟨#[32, 101, 108, 115, 101, 32]⟩ ++ t2
  else if h.kind = 6 then ⟨#[115, 101, 108, 102, 40]⟩ ++ num h.pos ++ ⟨#[41]⟩
  else if h.kind = 7 then ⟨#[110, 111, 110, 101]⟩
  else if h.kind = 8 then h.symbol ++ ⟨#[46]⟩ ++ h.name ++ ⟨#[32, 111, 102, 32]⟩ ++ atL l0 4 t0
  else txOp h.n t0 t1 l0 l1
def argT (f : Ex → ByteArray) (l : List Ex) (i : Nat) : ByteArray := (l[i]?).elim ⟨#[]⟩ f
def argV (l : List Ex) (i : Nat) : Int := (l[i]?).elim 0 fun e => levH e.h
def txE : Nat → Ex → ByteArray
  | 0, _ => ⟨#[]⟩
  | d + 1, e => txH e.h (argT (txE d) e.args 0) (argT (txE d) e.args 1) (argT (txE d) e.args 2) (argV e.args 0) (argV e.args 1)
theorem sz_lit (a : Array UInt8) : (⟨a⟩ : ByteArray).size = a.size := rfl
theorem joinL_le (xs : List ByteArray) (s : ByteArray) : ((joinL xs s).length : Int) ≤ bulkS xs + s.size * xs.length := by
  cases xs with
  | nil => simp [joinL_nil, bulkS]
  | cons y r =>
    have e : s.data.toList.length = s.size := by rw [Array.length_toList]; rfl
    have h1 := lens_bulk (y :: r)
    have h2 := Lib.join_length y.data.toList (r.map (·.data.toList)) s.data.toList
    unfold joinL
    simp only [List.map_cons] at h1 ⊢
    rw [h2, e, List.length_map]
    have h3 : (s.size : Int) * ((y :: r).length : Int) = (s.size : Int) * (r.length : Int) + s.size := by simp [Int.mul_add]
    have h4 : ((s.size * r.length : Nat) : Int) = (s.size : Int) * (r.length : Int) := by simp
    omega
theorem fmtT_size {v k : Int} (h0 : -9223372036854775808 ≤ v) (h1 : v ≤ 9223372036854775807) : (fmtTyped v k).size ≤ 300 := by
  unfold fmtTyped
  have hn := num_size h0 h1
  have hj := joinL_le (wordsT v 12) sp1
  have hb := words_bulk v
  have hl := wordsT_len v 12
  have hs : ((sp1.size : Nat) : Int) = 1 := rfl
  rw [hs, Int.one_mul] at hj
  have hj' : (⟨(joinL (wordsT v 12) sp1).toArray⟩ : ByteArray).size = (joinL (wordsT v 12) sp1).length := by simp [ByteArray.size]
  generalize (⟨(joinL (wordsT v 12) sp1).toArray⟩ : ByteArray) = J at hj'
  generalize num v = N at hn
  repeat' split
  all_goals try simp only [ByteArray.size_append, sz_lit, List.size_toArray, List.length_cons, List.length_nil]
  all_goals omega
theorem validN_size {s : ByteArray} (h : validN s = true) : s.size ≤ 8 := by
  unfold validN at h
  simp only [Bool.and_eq_true, decide_eq_true_eq] at h
  exact h.1.2
theorem argT_sum (f : Ex → ByteArray) (l : List Ex) : ((argT f l 0).size : Int) + (argT f l 1).size + (argT f l 2).size ≤ sumBy (fun e => ((f e).size : Int)) l := by
  have hz : ∀ r : List Ex, 0 ≤ sumBy (fun e => ((f e).size : Int)) r := sumBy_nonneg fun e => by omega
  have e0 : (⟨#[]⟩ : ByteArray).size = 0 := rfl
  match l with
  | [] => simp [argT, sumBy, e0]
  | [a] => simp [argT, sumBy, e0]
  | [a, b] => simp [argT, sumBy, e0]
  | a :: b :: c :: r =>
    have := hz r
    simp [argT, sumBy]
    omega
theorem sum_mono {α : Type} {f g : α → Int} : ∀ {l : List α}, (∀ x ∈ l, f x ≤ g x) → sumBy f l ≤ sumBy g l
  | [], _ => Int.le_refl _
  | a :: r, h => by
    have h1 := h a (by simp)
    have h2 := sum_mono (l := r) fun x hx => h x (by simp [hx])
    simp only [sumBy]
    omega
theorem sum_mul {α : Type} (K : Int) (f : α → Int) : ∀ l : List α, sumBy (fun x => K * f x) l = K * sumBy f l
  | [] => by simp [sumBy]
  | a :: r => by simp only [sumBy]; rw [sum_mul K f r, Int.mul_add]
/-- What one node adds. -/
theorem txH_size {h : ExH} (hk : h.ok) (t0 t1 t2 : ByteArray) (l0 l1 : Int) {a : Nat} (hn : nodeB h.kind h.n h.pos h.type h.symbol h.name a = true) : (txH h t0 t1 t2 l0 l1).size ≤ 400 + t0.size + t1.size + t2.size := by
  obtain ⟨n0, n1⟩ := wf_i64 hk.n
  obtain ⟨p0, p1⟩ := wf_i64 hk.pos
  have hN := num_size p0 p1
  have hF := fmtT_size (k := h.type) n0 n1
  have hw := opW_size h.n
  have a1 := atL_size l0 4 t0
  have a2 := atL_size l0 (max (lvN h.n) 2) t0
  have a3 := atL_size l1 (lvN h.n + 1) t1
  have hm : h.kind = 3 ∨ h.kind = 8 → h.name.size ≤ 8 := by
    intro hc
    unfold nodeB at hn
    rcases hc with hc | hc
    · simp [hc] at hn
      exact validN_size hn.2
    · simp [hc] at hn
      exact validN_size hn.2
  have hs : h.kind = 8 → h.symbol.size ≤ 8 := by
    intro hc
    unfold nodeB at hn
    simp [hc] at hn
    exact validN_size hn.1.2
  unfold txH txOp
  repeat' split
  all_goals try simp only [ByteArray.size_append, sz_lit, List.size_toArray, List.length_cons, List.length_nil]
  all_goals (first | omega | (have := hm (by omega); omega) | (have := hm (by omega); have := hs (by omega); omega))
theorem tx_size {w : World} : ∀ (d : Nat) (e : Ex) (cs : List Value) (F : List Nat), ExR d w e cs F → allE okN d e = true → ((txE d e).size : Int) ≤ 400 * cntE d e
  | 0, _, _, _, h, _ => h.elim
  | d + 1, e, cs, F, h, hv => by
    obtain ⟨A, cap, rfl, hok, hl, hm, hs⟩ := ex_form h
    have hv' : (okN e && e.args.all (allE okN d)) = true := hv
    rw [Bool.and_eq_true] at hv'
    have h1 := txH_size hok (argT (txE d) e.args 0) (argT (txE d) e.args 1) (argT (txE d) e.args 2) (argV e.args 0) (argV e.args 1) hv'.1
    have h2 := argT_sum (txE d) e.args
    have h3 : sumBy (fun x => ((txE d x).size : Int)) e.args ≤ sumBy (fun x => 400 * cntE d x) e.args := sum_mono fun x hx => by
      obtain ⟨j, hj⟩ := List.mem_iff_getElem?.1 hx
      obtain ⟨b, off, cs, Fk, _, _, _, _, _, _, hR⟩ := SlR.get (ExR.good d) hs hj
      exact tx_size d x cs Fk hR (List.all_eq_true.1 hv'.2 x hx)
    rw [sum_mul] at h3
    have h4 : ((txE (d + 1) e).size : Int) = ((txH e.h (argT (txE d) e.args 0) (argT (txE d) e.args 1) (argT (txE d) e.args 2) (argV e.args 0) (argV e.args 1)).size : Int) := rfl
    simp only [cntE]
    omega
/-- A valid expression's text is short. -/
theorem tx_short {w : World} {d : Nat} {e : Ex} {cs : List Value} {F : List Nat} (h : ExR d w e cs F) (hv : allE okN d e = true) (hc : cntE d e ≤ 24) : (txE d e).size ≤ 9600 := by
  have := tx_size d e cs F h hv
  omega
end Go.Proofs.YtjddmboaaebbiaaGreatDoor

/- Attributes and symbols: how they lie in memory, their sizes, comparisons and copies. Conditions: a size is asked with at most 2^20; a copy is asked of what has at most that size. -/
namespace Go.Proofs.YtjddmboaaebbiaaGreatDoor
set_option linter.unusedSimpArgs false
set_option linter.unusedVariables false
set_option maxRecDepth 100000
open Go.RowKit Go.WideShapes
set_option linter.unusedVariables false

structure Atr where
  name : ByteArray
  type : Int
  mode : Int
  circ : Bool
structure Atr.ok (x : Atr) : Prop where
  name : x.name.size ≤ maxLen
  type : (Lit.int .i64 x.type).wf = true
  mode : (Lit.int .i64 x.mode).wf = true
def AtrR (D : Nat) : CR Atr := fun w x cs F => cs.length = 4 ∧ x.ok ∧ cs[0]? = some (.string x.name) ∧ cs[1]? = some (.int .i64 x.type) ∧ cs[2]? = some (.int .i64 x.mode) ∧ cs[3]? = some (.bool x.circ) ∧ F = []
theorem AtrR.good (D : Nat) : Good 4 (AtrR D) where
  len := fun {w x cs F} h => by
    obtain ⟨hl, hk, h0, h1, h2, h3, rfl⟩ := h
    exact hl
  frame := fun {w w' x cs F} h he hz => by
    obtain ⟨hl, hk, h0, h1, h2, h3, rfl⟩ := h
    exact ⟨hl, hk, h0, h1, h2, h3, rfl⟩
  lt := fun {w x cs F} h b hb => by
    obtain ⟨hl, hk, h0, h1, h2, h3, rfl⟩ := h
    cases hb
theorem AtrR.up {D : Nat} {w : World} {x : Atr} {cs : List Value} {F : List Nat} (h : AtrR D w x cs F) (D' : Nat) (hd : D ≤ D') : AtrR D' w x cs F := by
  obtain ⟨hl, hk, h0, h1, h2, h3, rfl⟩ := h
  exact ⟨hl, hk, h0, h1, h2, h3, rfl⟩
theorem AtrR.one {D : Nat} {w : World} {x : Atr} {cs : List Value} {F : List Nat} (h : AtrR D w x cs F) : ∀ v ∈ cs, v.oneCell' = true := by
  obtain ⟨c0, c1, c2, c3, rfl⟩ := list4 ((AtrR.good D).len h)
  obtain ⟨hl, hk, h0, h1, h2, h3, rfl⟩ := h
  intro v hv
  simp only [List.mem_cons, List.not_mem_nil, or_false] at hv
  rcases hv with rfl | rfl | rfl | rfl
  · obtain rfl := Option.some.inj h0
    rfl
  · obtain rfl := Option.some.inj h1
    rfl
  · obtain rfl := Option.some.inj h2
    rfl
  · obtain rfl := Option.some.inj h3
    rfl
def bulkAtr (D : Nat) (x : Atr) : Int := (x.name.size : Int)
theorem bulkAtr_nonneg (D : Nat) (x : Atr) : 0 ≤ bulkAtr D x := by unfold bulkAtr; omega
theorem cells_Atr {H : Type} {enc : TypeId × Value → H} {w : World} {base : Nat} {sp : Nat → Bool} {held : Bool} (fuel : Nat) {cs : List Value} {x : DataW H × List MemPlace}
    (h : DataW.trod enc Tryz.prog w base sp held fuel 156 cs = some x) : ∃ y F, AtrR fuel w y cs F := by
  have ht := Tryz.underlying156
  have hl := (trod_len ht h).trans (show Tryz.prog.cellsOf 156 = 4 by kernel_rfl)
  obtain ⟨c0, c1, c2, c3, rfl⟩ := list4 hl
  obtain ⟨z0, e0, w0⟩ := field_string 0 _ ht h rfl Tryz.underlying9 (by kernel_rfl)
  obtain ⟨z1, e1, w1⟩ := field_int 1 _ ht h rfl Tryz.underlying3 (by kernel_rfl)
  obtain ⟨z2, e2, w2⟩ := field_int 2 _ ht h rfl Tryz.underlying3 (by kernel_rfl)
  obtain ⟨z3, e3⟩ := field_bool 3 _ ht h rfl Tryz.underlying4 (by kernel_rfl)
  simp at e0 e1 e2 e3
  subst e0 e1 e2 e3
  exact ⟨⟨z0, z1, z2, z3⟩, _, rfl, ⟨w0, w1, w2⟩, rfl, rfl, rfl, rfl, rfl⟩
set_option maxRecDepth 100000 in
theorem open_Atr {H : Type} {enc : TypeId × Value → H} {w : World} {C base : Nat} {sp : Nat → Bool} {held : Bool} {v : Value} {d : DataW H} {p : List MemPlace} (hv : Value.okWide Tryz.prog w .any C 156 v)
    (h : DataW.Trod enc Tryz.prog w base sp held 156 v d p) : ∃ (D : Nat) (y : Atr) (cs : List Value) (F : List Nat), v = .agg cs.toArray ∧ AtrR D w y cs F := by
  obtain ⟨cs, fuel, x, rfl, hf⟩ := okWide_cells Tryz.underlying156 hv h
  obtain ⟨y, F, he⟩ := cells_Atr fuel hf
  exact ⟨fuel, y, _, F, rfl, he⟩
set_option maxRecDepth 100000 in
theorem z_Atr (D : Nat) (x : Atr) (cs : List Value) (F : List Nat) (w : World) (L : Int) (h : AtrR D w x cs F) (h0 : 0 ≤ L) (h1 : L ≤ 1048576) :
    Calls Tryz.prog 127 #[.agg cs.toArray, .int .i64 L] w fun en w' => Sized (bulkAtr D x) L en ∧ Below w.heap.size w w' := by
  obtain ⟨c0, c1, c2, c3, rfl⟩ := list4 ((AtrR.good D).len h)
  obtain ⟨_, hk, h0, h1, h2, h3, rfl⟩ := h
  obtain rfl := Option.some.inj h0
  obtain rfl := Option.some.inj h1
  obtain rfl := Option.some.inj h2
  obtain rfl := Option.some.inj h3
  have hs_name := hk.name
  unfold maxLen at hs_name
  clear hk
  obtain ⟨C, hz0, hw0⟩ := boxes1 w [.string x.name, .int .i64 x.type, .int .i64 x.mode, .bool x.circ] 156
  show Calls _ _ #[.agg #[.string x.name, .int .i64 x.type, .int .i64 x.mode, .bool x.circ], .int .i64 L] w _
  by_cases q_name : L < x.name.size
  · go_enter Tryz.func127, Tryz.ntmps127
    go_wp2_with fail
    go_ret
    exact ⟨⟨-1, rfl, .inl rfl⟩, hw0⟩
  go_enter Tryz.func127, Tryz.ntmps127
  go_wp2_with fail
  go_ret
  exact ⟨⟨_, rfl, .inr ⟨by omega, by unfold bulkAtr; omega⟩⟩, hw0⟩
set_option maxRecDepth 100000 in
theorem zs_Atr (D : Nat) (l : List Atr) (v : Value) (F : List Nat) (w : World) (L : Int) (hs : SlR 4 (AtrR D) w l v F) (h0 : 0 ≤ L) (h1 : L ≤ 1048576) :
    Calls Tryz.prog 99 #[v, .int .i64 L] w fun en w' => Sized (l.length + sumBy (bulkAtr D) l) L en ∧ Below w.heap.size w w' := by
  obtain ⟨A, cap, rfl, hlc, hm⟩ := hs.form
  have HF := hide (hs.lt (AtrR.good D))
  unfold maxLen at hm
  have Hs := hide hs
  have Hnn := hide (bulkAtr_nonneg D)
  clear hs
  by_cases hn : L < l.length
  · go_enter Tryz.func99, Tryz.ntmps99
    go_wp2_with fail
    go_ret
    exact ⟨⟨-1, rfl, .inl rfl⟩, Below.refl _ _⟩
  go_enter Tryz.func99, Tryz.ntmps99
  go_wp2_with fail
  go_loopw [1, 5] (fun c i wr => ∃ j : Nat, j ≤ l.length ∧ i = .int .i64 j ∧ c = .int .i64 (L - l.length - sumBy (bulkAtr D) (l.take j)) ∧ 0 ≤ L - l.length - sumBy (bulkAtr D) (l.take j) ∧ Hid (Below w.heap.size w wr)) (fun _ i _ => l.length - (intOf i).toNat)
  case atStart => exact ⟨0, by omega, rfl, by simp [sumBy], by simp [sumBy]; omega, hide (Below.refl _ _)⟩
  case round =>
    obtain ⟨j, hj, rfl, rfl, hge, Hb⟩ := hrel
    have hpos := sumBy_nonneg Hnn.out (l.take j)
    by_cases hlt : j < l.length
    · have hx : l[j]? = some l[j] := List.getElem?_eq_getElem hlt
      generalize l[j] = x at hx
      have Hsum := hide (sumBy_take_succ (f := bulkAtr D) hx)
      have hcx := Hnn.out x
      obtain ⟨b, off, cs, Fk, hA, _, hbF, hFk, hcl, hcat, hR⟩ := SlR.get (AtrR.good D) (Hs.out.below (AtrR.good D) Hb.out HF.out) hx
      subst hA
      obtain ⟨c0, c1, c2, c3, rfl⟩ := list4 hcl
      have e0 : wr.cell? ⟨b, off + j * 4, none⟩ = some c0 := hcat 0 _ rfl
      have e1 : wr.cell? ⟨b, off + j * 4 + 1, none⟩ = some c1 := hcat 1 _ rfl
      have e2 : wr.cell? ⟨b, off + j * 4 + 2, none⟩ = some c2 := hcat 2 _ rfl
      have e3 : wr.cell? ⟨b, off + j * 4 + 3, none⟩ = some c3 := hcat 3 _ rfl
      have hblt := Nat.lt_of_lt_of_le (HF.out b hbF) Hb.out.size
      have HR := hide hR
      clear hx hR hcat hFk hbF hcl
      go_wp2_with fail
      refine Calls.mono (z_Atr D x _ Fk _ (L - l.length - sumBy (bulkAtr D) (l.take j)) HR.out (by omega) (by omega)) ?_
      rintro en w2 ⟨⟨r, rfl, hr⟩, hb2⟩
      have HB2 : Hid (Below w.heap.size w w2) := hide (Hb.out.trans (hb2.mono Hb.out.size))
      clear hb2
      rcases hr with rfl | ⟨hr0, hr1⟩
      · go_wp2_with fail
        go_ret
        exact ⟨⟨-1, rfl, .inl rfl⟩, HB2.out⟩
      · have Hr1 := hide hr1
        clear hr1
        go_wp2_with fail
        go_roundw
        case rel => exact ⟨j + 1, by omega, by go_num, by rw [Hsum.out, Hr1.out]; go_num, by rw [Hsum.out]; have := Hr1.out; omega, HB2⟩
        case measure => simp [intOf]; omega
    · have hjl : j = l.length := by omega
      rw [hjl, List.take_length] at hge
      rw [hjl, List.take_length]
      go_wp2_with fail
      go_ret
      exact ⟨⟨_, rfl, .inr ⟨hge, by omega⟩⟩, Hb.out⟩
set_option maxRecDepth 100000 in
theorem e_Atr (D : Nat) (x : Atr) (cs cs' : List Value) (F F' : List Nat) (w : World) (h : AtrR D w x cs F) (h' : AtrR D w x cs' F') :
    Calls Tryz.prog 132 #[.agg cs.toArray, .agg cs'.toArray] w fun en w' => en = .returned (.bool true) ∧ Below w.heap.size w w' := by
  obtain ⟨a0, a1, a2, a3, rfl⟩ := list4 ((AtrR.good D).len h)
  obtain ⟨_, hk, h0, h1, h2, h3, rfl⟩ := h
  obtain rfl := Option.some.inj h0
  obtain rfl := Option.some.inj h1
  obtain rfl := Option.some.inj h2
  obtain rfl := Option.some.inj h3
  obtain ⟨b0, b1, b2, b3, rfl⟩ := list4 ((AtrR.good D).len h')
  obtain ⟨_, phk, ph0, ph1, ph2, ph3, rfl⟩ := h'
  obtain rfl := Option.some.inj ph0
  obtain rfl := Option.some.inj ph1
  obtain rfl := Option.some.inj ph2
  obtain rfl := Option.some.inj ph3
  obtain ⟨C1, C2, hz0, hw0⟩ := boxes2 w [.string x.name, .int .i64 x.type, .int .i64 x.mode, .bool x.circ] [.string x.name, .int .i64 x.type, .int .i64 x.mode, .bool x.circ] 112 112
  show Calls _ _ #[.agg #[.string x.name, .int .i64 x.type, .int .i64 x.mode, .bool x.circ], .agg #[.string x.name, .int .i64 x.type, .int .i64 x.mode, .bool x.circ]] w _
  go_enter Tryz.func132, Tryz.ntmps132
  go_wp2_with fail
  go_ret
  exact ⟨rfl, hw0⟩
set_option maxRecDepth 100000 in
theorem es_Atr (D : Nat) (l : List Atr) (v v' : Value) (F F' : List Nat) (w : World) (hs : SlR 4 (AtrR D) w l v F) (hs' : SlR 4 (AtrR D) w l v' F') :
    Calls Tryz.prog 109 #[v, v'] w fun en w' => en = .returned (.bool true) ∧ Below w.heap.size w w' := by
  obtain ⟨A, cap, rfl, hlc, hm⟩ := hs.form
  obtain ⟨A', cap', rfl, hlc', hm'⟩ := hs'.form
  have HF := hide (hs.lt (AtrR.good D))
  have HF' := hide (hs'.lt (AtrR.good D))
  unfold maxLen at hm hm'
  have Hs := hide hs
  have Hs' := hide hs'
  clear hs hs'
  go_enter Tryz.func109, Tryz.ntmps109
  go_wp2_with fail
  go_loopw [5] (fun i wr => ∃ j : Nat, j ≤ l.length ∧ i = .int .i64 j ∧ Hid (Below w.heap.size w wr)) (fun i _ => l.length - (intOf i).toNat)
  case atStart => exact ⟨0, by omega, rfl, hide (Below.refl _ _)⟩
  case round =>
    obtain ⟨j, hj, rfl, Hb⟩ := hrel
    by_cases hlt : j < l.length
    · have hx : l[j]? = some l[j] := List.getElem?_eq_getElem hlt
      generalize l[j] = x at hx
      obtain ⟨b, off, cs, Fk, hA, _, hbF, hFk, hcl, hcat, hR⟩ := SlR.get (AtrR.good D) (Hs.out.below (AtrR.good D) Hb.out HF.out) hx
      subst hA
      obtain ⟨a0, a1, a2, a3, rfl⟩ := list4 hcl
      obtain ⟨b', off', cs', Fk', hA, _, hbF', hFk', hcl', hcat', hR'⟩ := SlR.get (AtrR.good D) (Hs'.out.below (AtrR.good D) Hb.out HF'.out) hx
      subst hA
      obtain ⟨b0, b1, b2, b3, rfl⟩ := list4 hcl'
      have hblt := Nat.lt_of_lt_of_le (HF.out b hbF) Hb.out.size
      have hblt' := Nat.lt_of_lt_of_le (HF'.out b' hbF') Hb.out.size
      have e0 : ∀ W : World, Below wr.heap.size wr W → W.cell? ⟨b, off + j * 4, none⟩ = some a0 := fun W h => (hcat.below h hblt) 0 _ rfl
      have e1 : ∀ W : World, Below wr.heap.size wr W → W.cell? ⟨b, off + j * 4 + 1, none⟩ = some a1 := fun W h => (hcat.below h hblt) 1 _ rfl
      have e2 : ∀ W : World, Below wr.heap.size wr W → W.cell? ⟨b, off + j * 4 + 2, none⟩ = some a2 := fun W h => (hcat.below h hblt) 2 _ rfl
      have e3 : ∀ W : World, Below wr.heap.size wr W → W.cell? ⟨b, off + j * 4 + 3, none⟩ = some a3 := fun W h => (hcat.below h hblt) 3 _ rfl
      have g0 : ∀ W : World, Below wr.heap.size wr W → W.cell? ⟨b', off' + j * 4, none⟩ = some b0 := fun W h => (hcat'.below h hblt') 0 _ rfl
      have g1 : ∀ W : World, Below wr.heap.size wr W → W.cell? ⟨b', off' + j * 4 + 1, none⟩ = some b1 := fun W h => (hcat'.below h hblt') 1 _ rfl
      have g2 : ∀ W : World, Below wr.heap.size wr W → W.cell? ⟨b', off' + j * 4 + 2, none⟩ = some b2 := fun W h => (hcat'.below h hblt') 2 _ rfl
      have g3 : ∀ W : World, Below wr.heap.size wr W → W.cell? ⟨b', off' + j * 4 + 3, none⟩ = some b3 := fun W h => (hcat'.below h hblt') 3 _ rfl
      have HR := hide hR
      have HR' := hide hR'
      have hj0 : (0 : Int) ≤ (j : Int) := by omega
      have hj1 : (j : Int) < (l.length : Int) := by omega
      have hBr : Below wr.heap.size wr wr := Below.refl _ _
      clear hx hR hR' hcat hcat' hFk hFk' hbF hbF' hcl hcl'
      go_wp2_with fail
      go_region_held3 (fun W => Below wr.heap.size wr W)
        (first | assumption | exact Below.drew (by assumption))
        ((go_at_call 132; refine Calls.mono (e_Atr D x _ _ Fk Fk' _ ((AtrR.good D).heap HR.out rfl) ((AtrR.good D).heap HR'.out rfl)) ?_; rintro en w2 ⟨rfl, hb2⟩; have hB2 : Below wr.heap.size wr w2 := below_step (by (repeat (first | assumption | apply Below.drew))) (Nat.le_refl _) hb2; clear hb2))
      have HB2 : Hid (Below w.heap.size w w2) := hide (Hb.out.trans (hB2.mono Hb.out.size))
      clear hB2
      go_wp2_with fail
      go_roundw
      case rel => exact ⟨j + 1, by omega, by go_num, HB2⟩
      case measure => simp [intOf]; omega
    · go_wp2_with fail
      go_ret
      exact ⟨rfl, Hb.out⟩
set_option maxRecDepth 100000 in
theorem c_Atr (D : Nat) (x : Atr) (cs : List Value) (F : List Nat) (w : World) (h : AtrR D w x cs F) :
    Calls Tryz.prog 128 #[.agg cs.toArray] w fun en w' => ∃ us F', en = .returned (.agg (List.toArray us)) ∧ AtrR D w' x us F' ∧ Fresh w.heap.size w' F' ∧ Below w.heap.size w w' := by
  obtain ⟨c0, c1, c2, c3, rfl⟩ := list4 ((AtrR.good D).len h)
  obtain ⟨_, hk, h0, h1, h2, h3, rfl⟩ := h
  obtain rfl := Option.some.inj h0
  obtain rfl := Option.some.inj h1
  obtain rfl := Option.some.inj h2
  obtain rfl := Option.some.inj h3
  show Calls _ _ #[.agg #[.string x.name, .int .i64 x.type, .int .i64 x.mode, .bool x.circ]] w _
  go_enter Tryz.func128, Tryz.ntmps128
  go_wp2_with fail
  exact bodyPost_ret (v := .agg #[.string x.name, .int .i64 x.type, .int .i64 x.mode, .bool x.circ]) (by simp [results, Tryz.results128, go_sem]) rfl ⟨[.string x.name, .int .i64 x.type, .int .i64 x.mode, .bool x.circ], [], rfl, ⟨rfl, hk, rfl, rfl, rfl, rfl, rfl⟩, Fresh.nil _ _, (((Below.refl _ _).alloc (Nat.le_refl _) _).alloc (by simp) _).alloc (by simp; omega) _⟩
set_option maxRecDepth 100000 in
theorem cs_Atr (D : Nat) (l : List Atr) (v : Value) (F : List Nat) (w : World) (hs : SlR 4 (AtrR D) w l v F) (hl : l.length ≤ 1048576) (hbl : sumBy (bulkAtr D) l ≤ 1048576) :
    Calls Tryz.prog 102 #[v] w fun en w' => ∃ v' F', en = .returned v' ∧ SlR 4 (AtrR D) w' l v' F' ∧ Fresh w.heap.size w' F' ∧ Below w.heap.size w w' := by
  obtain ⟨A, cap, rfl, hlc, hm⟩ := hs.form
  have HF := hide (hs.lt (AtrR.good D))
  have Hs := hide hs
  have Hbl := hide (fun x (hx : x ∈ l) => Int.le_trans (sumBy_mem (f := bulkAtr D) (bulkAtr_nonneg D) hx) hbl)
  clear hs hbl hlc hm
  have hmk := fun W => run_make_rowN' (P := Tryz.prog) 76 112 (.agg #[.string ByteArray.empty, .int .i64 0, .int .i64 0, .bool false]) 4 40 Tryz.underlying76 (by kernel_rfl) .i64 .i64 l.length (by omega) (by omega) W
  have hst := fun (w : World) (a : Addr) (v : Value) (m : Mode) (hv : v.oneCell' = true) => run_store Tryz.prog w a v m hv
  go_enter Tryz.func102, Tryz.ntmps102
  go_wp2_with fail
  go_loopw [4] (fun i wr => ∃ (j : Nat) (F' : List Nat), j ≤ l.length ∧ i = .int .i64 j ∧ Hid (ElR 4 (AtrR D) wr w.heap.size 0 (l.take j) F') ∧ Hid (Fresh (w.heap.size + 1) wr F') ∧ Hid (∃ cs, wr.heap[w.heap.size]? = some (.cells cs 112 (0, 0)) ∧ cs.size = l.length * 4) ∧ Hid (Below w.heap.size w wr)) (fun i _ => l.length - (intOf i).toNat)
  case atStart => exact ⟨0, [], by omega, rfl, hide rfl, hide (Fresh.nil _ _), hide ⟨_, heap_alloc_new w _, by simp [madeCells]⟩, hide ((Below.refl _ _).alloc (Nat.le_refl _) _)⟩
  case round =>
    obtain ⟨j, F', hj, rfl, Hel, Hfr, Hbk, Hb⟩ := hrel
    by_cases hlt : j < l.length
    · have hx : l[j]? = some l[j] := List.getElem?_eq_getElem hlt
      generalize l[j] = x at hx
      have Hx := hide hx
      obtain ⟨b, off, cs, Fk, hA, _, hbF, hFk, hcl, hcat, hR⟩ := SlR.get (AtrR.good D) (Hs.out.below (AtrR.good D) Hb.out HF.out) hx
      subst hA
      obtain ⟨c0, c1, c2, c3, rfl⟩ := list4 hcl
      have e0 : wr.cell? ⟨b, off + j * 4, none⟩ = some c0 := hcat 0 _ rfl
      have e1 : wr.cell? ⟨b, off + j * 4 + 1, none⟩ = some c1 := hcat 1 _ rfl
      have e2 : wr.cell? ⟨b, off + j * 4 + 2, none⟩ = some c2 := hcat 2 _ rfl
      have e3 : wr.cell? ⟨b, off + j * 4 + 3, none⟩ = some c3 := hcat 3 _ rfl
      have hblt := Nat.lt_of_lt_of_le (HF.out b hbF) Hb.out.size
      have HR := hide hR
      have hbz := Hb.out.size
      clear hx hR hcat hFk hbF hcl
      go_wp2_with fail
      refine Calls.mono (c_Atr D x _ Fk _ HR.out) ?_
      rintro en w2 ⟨us, F2, rfl, hR2, hf2, hb2⟩
      obtain ⟨u0, u1, u2, u3, rfl⟩ := list4 ((AtrR.good D).len hR2)
      have ho := AtrR.one hR2
      have o0 := ho u0 (by simp)
      have o1 := ho u1 (by simp)
      have o2 := ho u2 (by simp)
      have o3 := ho u3 (by simp)
      obtain ⟨cs, hcs, hcz⟩ := Hbk.out
      have hcs2 : w2.heap[w.heap.size]? = some (.cells cs 112 (0, 0)) := blk_below hcs hb2 (blk_lt hcs)
      have q0 := cell_at (i := j * 4) hcs2 (by omega)
      have q1 := cell_at (i := j * 4 + 1) hcs2 (by omega)
      have q2 := cell_at (i := j * 4 + 2) hcs2 (by omega)
      have q3 := cell_at (i := j * 4 + 3) hcs2 (by omega)
      have g0 := frozen_of_row w2 w.heap.size (j * 4) _ _ hcs2
      have g1 := frozen_of_row w2 w.heap.size (j * 4 + 1) _ _ hcs2
      have g2 := frozen_of_row w2 w.heap.size (j * 4 + 2) _ _ hcs2
      have g3 := frozen_of_row w2 w.heap.size (j * 4 + 3) _ _ hcs2
      have HB2 := hide hb2
      have HR2 := hide hR2
      have Hf2 := hide hf2
      have Hcs0 := hide hcs
      clear hb2 hR2 hf2 hcs hcs2 ho
      go_wp2_with fail
      have hst := copy_step (w := w) (AtrR.good D) Hx.out Hel.out Hfr.out Hcs0.out hcz Hb.out HB2.out HR2.out Hf2.out rfl
      exact ⟨⟨j + 1, F' ++ F2, by omega, by go_num, hide hst.1, hide hst.2.1, hide hst.2.2.1, hide hst.2.2.2⟩, by simp [intOf]; omega⟩
    · have hjl : j = l.length := by omega
      subst hjl
      have Hel' : Hid (ElR 4 (AtrR D) wr w.heap.size 0 l F') := by have := Hel.out; rw [List.take_length] at this; exact hide this
      go_wp2_with fail
      go_ret
      obtain ⟨cs, hcs, _⟩ := Hbk.out
      obtain ⟨G, hG, hGf⟩ := copy_done (w := w) (by unfold maxLen; omega) Hel'.out Hfr.out hcs
      exact ⟨_, G, rfl, hG, hGf, Hb.out⟩
structure Sym where
  name : ByteArray
  attrs : List Atr
structure Sym.ok (x : Sym) : Prop where
  name : x.name.size ≤ maxLen
def SymR (D : Nat) : CR Sym := fun w x cs F => ∃ (v1 : Value) (F1 : List Nat), cs.length = 2 ∧ x.ok ∧ cs[0]? = some (.string x.name) ∧ (cs[1]? = some v1 ∧ SlR 4 (AtrR D) w x.attrs v1 F1) ∧ F = F1
theorem SymR.good (D : Nat) : Good 2 (SymR D) where
  len := fun {w x cs F} h => by
    obtain ⟨v1, F1, hl, hk, h0, ⟨h1, g1⟩, rfl⟩ := h
    exact hl
  frame := fun {w w' x cs F} h he hz => by
    obtain ⟨v1, F1, hl, hk, h0, ⟨h1, g1⟩, rfl⟩ := h
    exact ⟨v1, F, hl, hk, h0, ⟨h1, g1.frame (AtrR.good D) (fun k hk' => he k (hk')) hz⟩, rfl⟩
  lt := fun {w x cs F} h b hb => by
    obtain ⟨v1, F1, hl, hk, h0, ⟨h1, g1⟩, rfl⟩ := h
    exact g1.lt (AtrR.good D) b hb
theorem SymR.up {D : Nat} {w : World} {x : Sym} {cs : List Value} {F : List Nat} (h : SymR D w x cs F) (D' : Nat) (hd : D ≤ D') : SymR D' w x cs F := by
  obtain ⟨v1, F1, hl, hk, h0, ⟨h1, g1⟩, rfl⟩ := h
  exact ⟨v1, F, hl, hk, h0, ⟨h1, g1.mono fun _ _ _ q => AtrR.up q _ hd⟩, rfl⟩
theorem SymR.one {D : Nat} {w : World} {x : Sym} {cs : List Value} {F : List Nat} (h : SymR D w x cs F) : ∀ v ∈ cs, v.oneCell' = true := by
  obtain ⟨c0, c1, rfl⟩ := list2 ((SymR.good D).len h)
  obtain ⟨v1, F1, hl, hk, h0, ⟨h1, g1⟩, rfl⟩ := h
  intro v hv
  simp only [List.mem_cons, List.not_mem_nil, or_false] at hv
  rcases hv with rfl | rfl
  · obtain rfl := Option.some.inj h0
    rfl
  · obtain ⟨A, cap, hv, _, _⟩ := g1.form
    obtain rfl := Option.some.inj h1
    rw [hv]
    rfl
def bulkSym (D : Nat) (x : Sym) : Int := (x.name.size : Int) + (x.attrs.length + sumBy (bulkAtr D) x.attrs)
theorem bulkSym_nonneg (D : Nat) (x : Sym) : 0 ≤ bulkSym D x := by unfold bulkSym; have := sumBy_nonneg (bulkAtr_nonneg D) x.attrs; omega
theorem cells_Sym {H : Type} {enc : TypeId × Value → H} {w : World} {base : Nat} {sp : Nat → Bool} {held : Bool} (fuel : Nat) {cs : List Value} {x : DataW H × List MemPlace}
    (h : DataW.trod enc Tryz.prog w base sp held fuel 109 cs = some x) : ∃ y F, SymR fuel w y cs F := by
  have ht := Tryz.underlying109
  have hl := (trod_len ht h).trans (show Tryz.prog.cellsOf 109 = 2 by kernel_rfl)
  obtain ⟨c0, c1, rfl⟩ := list2 hl
  obtain ⟨z0, e0, w0⟩ := field_string 0 _ ht h rfl Tryz.underlying9 (by kernel_rfl)
  obtain ⟨n1, y1, hn1, k1⟩ := trod_field 1 _ ht h rfl
  have k1 : DataW.trod enc Tryz.prog w base sp held n1 107 (([c0, c1].drop 1).take (Tryz.prog.cellsOf 107)) = some y1 := k1
  rw [show Tryz.prog.cellsOf 107 = 1 by kernel_rfl] at k1
  obtain ⟨z1, v1, G1, b1, r1⟩ := open_SlR (n := 4) Tryz.underlying107 (by kernel_rfl) (by omega) (AtrR n1) k1 (fun m cs y hm hy => by
      obtain ⟨e, F, he⟩ := cells_Atr m hy
      exact ⟨e, F, he.up n1 (by omega)⟩)
  simp at e0 b1
  subst e0 b1
  exact ⟨⟨z0, z1⟩, _, _, G1, rfl, ⟨w0⟩, rfl, ⟨rfl, r1.mono fun x cs F (hx : AtrR n1 w x cs F) => hx.up fuel (by omega)⟩, rfl⟩
set_option maxRecDepth 100000 in
theorem open_Sym {H : Type} {enc : TypeId × Value → H} {w : World} {C base : Nat} {sp : Nat → Bool} {held : Bool} {v : Value} {d : DataW H} {p : List MemPlace} (hv : Value.okWide Tryz.prog w .any C 109 v)
    (h : DataW.Trod enc Tryz.prog w base sp held 109 v d p) : ∃ (D : Nat) (y : Sym) (cs : List Value) (F : List Nat), v = .agg cs.toArray ∧ SymR D w y cs F := by
  obtain ⟨cs, fuel, x, rfl, hf⟩ := okWide_cells Tryz.underlying109 hv h
  obtain ⟨y, F, he⟩ := cells_Sym fuel hf
  exact ⟨fuel, y, _, F, rfl, he⟩
set_option maxRecDepth 100000 in
theorem z_Sym (D : Nat) (x : Sym) (cs : List Value) (F : List Nat) (w : World) (L : Int) (h : SymR D w x cs F) (h0 : 0 ≤ L) (h1 : L ≤ 1048576) :
    Calls Tryz.prog 65 #[.agg cs.toArray, .int .i64 L] w fun en w' => Sized (bulkSym D x) L en ∧ Below w.heap.size w w' := by
  obtain ⟨c0, c1, rfl⟩ := list2 ((SymR.good D).len h)
  obtain ⟨v1, F1, _, hk, h0, ⟨h1, g1⟩, rfl⟩ := h
  obtain rfl := Option.some.inj h0
  obtain rfl := Option.some.inj h1
  have hs_name := hk.name
  unfold maxLen at hs_name
  clear hk
  have HF1 := hide (g1.lt (AtrR.good D))
  have HX1 : Hid (∀ W : World, Below w.heap.size w W → SlR 4 (AtrR D) W x.attrs c1 F) := hide fun W hW => g1.below (AtrR.good D) hW HF1.out
  clear g1
  obtain ⟨C, hz0, hw0⟩ := boxes1 w [.string x.name, c1] 109
  show Calls _ _ #[.agg #[.string x.name, c1], .int .i64 L] w _
  by_cases q_name : L < x.name.size
  · go_enter Tryz.func65, Tryz.ntmps65
    go_wp2_with fail
    go_ret
    exact ⟨⟨-1, rfl, .inl rfl⟩, hw0⟩
  go_enter Tryz.func65, Tryz.ntmps65
  go_wp2_with fail
  generalize w.alloc (Obj.cells #[.string x.name, c1] 109) = W0 at C hz0 hw0 ⊢
  have hn0 : (w.heap.size + 1) ≤ W0.heap.size := by omega
  have Hw : Hid (∀ W : World, Below (w.heap.size + 1) W0 W → Below w.heap.size w W) := hide fun W h => hw0.trans (h.mono (by omega))
  have hB0 : Below (w.heap.size + 1) W0 W0 := Below.refl _ _
  have e1 := cell_rule C (n := (w.heap.size + 1)) (by omega) 1 (v := c1) rfl
  clear C hz0 hw0
  refine Calls.mono (zs_Atr D x.attrs _ F _ (L - x.name.size) (HX1.out _ (Hw.out _ hB0)) (by omega) (by omega)) ?_
  rintro en W1 ⟨⟨r0, rfl, hr⟩, hb⟩
  have hB1 : Below (w.heap.size + 1) W0 W1 := below_step hB0 hn0 hb
  clear hb
  rcases hr with rfl | ⟨hr0, hq0⟩
  · go_wp2_with fail
    go_ret
    exact ⟨⟨-1, rfl, .inl rfl⟩, Hw.out _ hB1⟩
  have hn1 := sumBy_nonneg (bulkAtr_nonneg D) x.attrs
  have hl0 : r0 ≤ 1048576 := by omega
  have Hq0 := hide hq0
  clear hq0 hn1
  go_wp2_with fail
  go_ret
  exact ⟨⟨_, rfl, .inr ⟨by omega, by have := Hq0.out; unfold bulkSym; omega⟩⟩, Hw.out _ hB1⟩
set_option maxRecDepth 100000 in
theorem e_Sym (D : Nat) (x : Sym) (cs cs' : List Value) (F F' : List Nat) (w : World) (h : SymR D w x cs F) (h' : SymR D w x cs' F') :
    Calls Tryz.prog 72 #[.agg cs.toArray, .agg cs'.toArray] w fun en w' => en = .returned (.bool true) ∧ Below w.heap.size w w' := by
  obtain ⟨a0, a1, rfl⟩ := list2 ((SymR.good D).len h)
  obtain ⟨v1, F1, _, hk, h0, ⟨h1, g1⟩, rfl⟩ := h
  obtain rfl := Option.some.inj h0
  obtain rfl := Option.some.inj h1
  obtain ⟨b0, b1, rfl⟩ := list2 ((SymR.good D).len h')
  obtain ⟨pv1, pF1, _, phk, ph0, ⟨ph1, pg1⟩, rfl⟩ := h'
  obtain rfl := Option.some.inj ph0
  obtain rfl := Option.some.inj ph1
  have HF := hide (g1.lt (AtrR.good D))
  have HXF : Hid (∀ W : World, Below w.heap.size w W → SlR 4 (AtrR D) W x.attrs a1 F) := hide fun W hW => g1.below (AtrR.good D) hW HF.out
  clear g1
  have HF' := hide (pg1.lt (AtrR.good D))
  have HXF' : Hid (∀ W : World, Below w.heap.size w W → SlR 4 (AtrR D) W x.attrs b1 F') := hide fun W hW => pg1.below (AtrR.good D) hW HF'.out
  clear pg1
  obtain ⟨C1, C2, hz0, hw0⟩ := boxes2 w [.string x.name, a1] [.string x.name, b1] 78 78
  show Calls _ _ #[.agg #[.string x.name, a1], .agg #[.string x.name, b1]] w _
  go_enter Tryz.func72, Tryz.ntmps72
  go_wp2_with fail
  generalize (w.alloc (Obj.cells #[.string x.name, a1] 78)).alloc (Obj.cells #[.string x.name, b1] 78) = W0 at C1 C2 hz0 hw0 ⊢
  have hn0 : (w.heap.size + 2) ≤ W0.heap.size := by omega
  have Hw : Hid (∀ W : World, Below (w.heap.size + 2) W0 W → Below w.heap.size w W) := hide fun W h => hw0.trans (h.mono (by omega))
  have hB0 : Below (w.heap.size + 2) W0 W0 := Below.refl _ _
  have e0 := cell_rule C1 (n := (w.heap.size + 2)) (by omega) 0 (v := (.string x.name)) rfl
  have g0 := cell_rule C2 (n := (w.heap.size + 2)) (by omega) 0 (v := (.string x.name)) rfl
  have e1 := cell_rule C1 (n := (w.heap.size + 2)) (by omega) 1 (v := a1) rfl
  have g1 := cell_rule C2 (n := (w.heap.size + 2)) (by omega) 1 (v := b1) rfl
  clear C1 C2 hz0 hw0
  refine Calls.mono (es_Atr D x.attrs _ _ F F' _ (HXF.out _ (Hw.out _ hB0)) (HXF'.out _ (Hw.out _ hB0))) ?_
  rintro en W1 ⟨rfl, hb⟩
  have hB1 : Below (w.heap.size + 2) W0 W1 := below_step hB0 hn0 hb
  clear hb
  go_wp2_with fail
  go_ret
  exact ⟨rfl, Hw.out _ hB1⟩
set_option maxRecDepth 100000 in
theorem c_Sym (D : Nat) (x : Sym) (cs : List Value) (F : List Nat) (w : World) (h : SymR D w x cs F) (hbk : bulkSym D x ≤ 1048576) :
    Calls Tryz.prog 69 #[.agg cs.toArray] w fun en w' => ∃ us F', en = .returned (.agg (List.toArray us)) ∧ SymR D w' x us F' ∧ Fresh w.heap.size w' F' ∧ Below w.heap.size w w' := by
  obtain ⟨c0, c1, rfl⟩ := list2 ((SymR.good D).len h)
  obtain ⟨v1, F1, _, hk, h0, ⟨h1, g1⟩, rfl⟩ := h
  obtain rfl := Option.some.inj h0
  obtain rfl := Option.some.inj h1
  have Hk := hide hk
  clear hk
  have Hbk := hide hbk
  clear hbk
  have HF0 := hide (g1.lt (AtrR.good D))
  have HX0 : Hid (∀ W : World, Below w.heap.size w W → SlR 4 (AtrR D) W x.attrs c1 F) := hide fun W hW => g1.below (AtrR.good D) hW HF0.out
  clear g1
  have Hb0 : Hid (x.attrs.length ≤ 1048576 ∧ sumBy (bulkAtr D) x.attrs ≤ 1048576) := hide (by
    have hb := Hbk.out
    unfold bulkSym at hb
    have := sumBy_nonneg (bulkAtr_nonneg D) x.attrs
    omega)
  obtain ⟨C, hz0, hw0⟩ := boxes1 w [.string x.name, c1] 109
  show Calls _ _ #[.agg #[.string x.name, c1]] w _
  go_enter Tryz.func69, Tryz.ntmps69
  go_wp2_with fail
  have hA1 := heap_alloc_new (w.alloc (Obj.cells #[.string x.name, c1] 109)) (Obj.cells #[.string ⟨#[]⟩, .slice none 0 0] 78)
  have hA2 := heap_alloc_new ((w.alloc (Obj.cells #[.string x.name, c1] 109)).alloc (Obj.cells #[.string ⟨#[]⟩, .slice none 0 0] 78)) (Obj.cells #[.string x.name, .slice none 0 0] 78)
  have hA0 : Below (w.heap.size + 1) (w.alloc (Obj.cells #[.string x.name, c1] 109)) (((w.alloc (Obj.cells #[.string x.name, c1] 109)).alloc (Obj.cells #[.string ⟨#[]⟩, .slice none 0 0] 78)).alloc (Obj.cells #[.string x.name, .slice none 0 0] 78)) := ((Below.refl _ _).alloc (Nat.le_of_eq hz0.symm) _).alloc (by simp) _
  rw [hz0] at hA1
  have hA3 := (Below.heap_alloc ((w.alloc (Obj.cells #[.string x.name, c1] 109)).alloc (Obj.cells #[.string ⟨#[]⟩, .slice none 0 0] 78)) (Obj.cells #[.string x.name, .slice none 0 0] 78) (w.heap.size + 1) (by simp)).trans hA1
  have hz2 : (((w.alloc (Obj.cells #[.string x.name, c1] 109)).alloc (Obj.cells #[.string ⟨#[]⟩, .slice none 0 0] 78)).alloc (Obj.cells #[.string x.name, .slice none 0 0] 78)).heap.size = w.heap.size + 3 := by simp
  rw [World.size_alloc, hz0] at hA2
  clear hA1
  have hB0 := hA0
  generalize ((w.alloc (Obj.cells #[.string x.name, c1] 109)).alloc (Obj.cells #[.string ⟨#[]⟩, .slice none 0 0] 78)).alloc (Obj.cells #[.string x.name, .slice none 0 0] 78) = W0 at hA0 hA2 hA3 hz2 hB0 ⊢
  generalize w.alloc (Obj.cells #[.string x.name, c1] 109) = U at C hz0 hw0 hA0 hB0
  have hn0 : (w.heap.size + 1) ≤ U.heap.size := by omega
  have Hw : Hid (∀ W : World, Below (w.heap.size + 1) U W → Below w.heap.size w W) := hide fun W h => hw0.trans (h.mono (by omega))
  have e0 := cell_rule C (n := (w.heap.size + 1)) (by omega) 0 (v := (.string x.name)) rfl
  have e1 := cell_rule C (n := (w.heap.size + 1)) (by omega) 1 (v := c1) rfl
  have hZ0 : w.heap.size + 3 ≤ W0.heap.size := by omega
  clear C hz0 hw0 hA0 hz2
  have HR3_0 := hide hA2
  have HR2_0 := hide hA3
  clear hA2 hA3
  have hst := fun (w : World) (a : Addr) (v : Value) (m : Mode) (hv : v.oneCell' = true) => run_store Tryz.prog w a v m hv
  refine Calls.mono (cs_Atr D x.attrs _ F _ (HX0.out _ (Hw.out _ hB0)) Hb0.out.1 Hb0.out.2) ?_
  rintro en W1 ⟨u0_0, G0, rfl, hR, hf, hb⟩
  obtain ⟨A_0, k_0, rfl, _, _⟩ := hR.form
  have HR0 := hide hR
  have Hf0 := hide hf
  have hY1 : Below (w.heap.size + 1) U W1 := below_step hB0 hn0 hb
  have HL0 : Hid (Later (w.heap.size + 3) W0 W1) := hide (Later.of_below hb)
  have h3 := blk_below HR3_0.out hb (by omega)
  have h2 := blk_below HR2_0.out hb (by omega)
  have hY := hb.size
  have hS1 : w.heap.size + 3 ≤ W1.heap.size := by omega
  clear hR hf hb hY
  have q0 := cell_at (i := 0) h3 (by simp)
  have g0 := frozen_of_row W1 (w.heap.size + 1 + 1) 0 _ _ h3
  have q1 := cell_at (i := 1) h3 (by simp)
  have g1 := frozen_of_row W1 (w.heap.size + 1 + 1) 1 _ _ h3
  have r0 := cell_at (i := 0) h2 (by simp)
  have s0 := frozen_of_row W1 (w.heap.size + 1) 0 _ _ h2
  have r1 := cell_at (i := 1) h2 (by simp)
  have s1 := frozen_of_row W1 (w.heap.size + 1) 1 _ _ h2
  simp only [Array.getD_eq_getD_getElem?, List.getElem?_toArray, List.getElem?_cons_succ, List.getElem?_cons_zero, Option.getD_some] at q0 q1 r0 r1
  have H3 := hide h3
  have H2 := hide h2
  clear h3 h2
  go_wp2_with fail
  change bodyPost _ _ _ _ _ (putCells (putCells W1 (w.heap.size + 1 + 1) 1 [.slice A_0 x.attrs.length k_0]) (w.heap.size + 1) 0 [.string x.name, .slice A_0 x.attrs.length k_0])
  have hP := put_spec [.slice A_0 x.attrs.length k_0] 1 W1 _ H3.out (by simp)
  have hQ := put_spec [.string x.name, .slice A_0 x.attrs.length k_0] 0 (putCells W1 (w.heap.size + 1 + 1) 1 [.slice A_0 x.attrs.length k_0]) _ ((hP.far (w.heap.size + 1) (by omega)).trans H2.out) (by simp)
  have hB : Below (w.heap.size + 1) U (putCells (putCells W1 (w.heap.size + 1 + 1) 1 [.slice A_0 x.attrs.length k_0]) (w.heap.size + 1) 0 [.string x.name, .slice A_0 x.attrs.length k_0]) := hY1.trans ((hP.below (by omega)).trans (hQ.below (by omega)))
  have hL : Later (w.heap.size + 3) W1 (putCells (putCells W1 (w.heap.size + 1 + 1) 1 [.slice A_0 x.attrs.length k_0]) (w.heap.size + 1) 0 [.string x.name, .slice A_0 x.attrs.length k_0]) := (Later.of_put hP (by omega)).trans (Later.of_put hQ (by omega))
  have hC := hQ.cellsAt
  generalize putCells (putCells W1 (w.heap.size + 1 + 1) 1 [.slice A_0 x.attrs.length k_0]) (w.heap.size + 1) 0 [.string x.name, .slice A_0 x.attrs.length k_0] = WF at hB hL hC ⊢
  have x0 : WF.cell? ⟨(w.heap.size + 1), 0, none⟩ = some (.string x.name) := hC 0 _ rfl
  have x1 : WF.cell? ⟨(w.heap.size + 1), 1, none⟩ = some (.slice A_0 x.attrs.length k_0) := (show WF.cell? ⟨(w.heap.size + 1), 0 + 1, none⟩ = _ from hC 1 _ rfl)
  have hFin : SymR D WF x [.string x.name, .slice A_0 x.attrs.length k_0] G0 := ⟨_, G0, rfl, Hk.out, rfl, ⟨rfl, HR0.out.later (AtrR.good D) Hf0.out (hL) (by omega)⟩, rfl⟩
  have hFr : Fresh w.heap.size WF G0 := (Hf0.out.later (hL) (by omega)).mono (by omega)
  exact bodyPost_ret (v := .agg #[.string x.name, .slice A_0 x.attrs.length k_0]) (by simp [results, Tryz.results69, go_sem, x0, x1]) rfl ⟨[.string x.name, .slice A_0 x.attrs.length k_0], G0, rfl, hFin, hFr, Hw.out _ hB⟩
end Go.Proofs.YtjddmboaaebbiaaGreatDoor

/- Symbols: an attribute sought by its name. Conditions: none beyond that the symbol can be read. -/
namespace Go.Proofs.YtjddmboaaebbiaaGreatDoor
set_option linter.unusedSimpArgs false
set_option linter.unusedVariables false
set_option maxRecDepth 100000
open Go.RowKit Go.WideShapes
set_option linter.unusedVariables false

theorem find_hit {α : Type} {p : α → Bool} : ∀ {l : List α} {j : Nat} {x : α}, (∀ (k : Nat) (y : α), k < j → l[k]? = some y → p y = false) → l[j]? = some x → p x = true → l.find? p = some x
  | [], _, _, _, h, _ => by cases h
  | a :: r, 0, x, _, h, hp => by
    simp at h
    subst h
    simp [List.find?, hp]
  | a :: r, j + 1, x, hn, h, hp => by
    have h0 := hn 0 a (by omega) rfl
    simp only [List.find?, h0]
    exact find_hit (fun (k : Nat) y (hk : k < j) hy => hn (k + 1) y (by omega) (by simpa using hy)) (by simpa using h) hp
theorem find_no {α : Type} {p : α → Bool} {l : List α} (h : ∀ (k : Nat) (y : α), l[k]? = some y → p y = false) : l.find? p = none := by
  rw [List.find?_eq_none]
  intro x hx
  obtain ⟨k, hk⟩ := List.getElem?_of_mem hx
  simp [h k x hk]
def Atr.zero : Atr := ⟨⟨#[]⟩, 0, 0, false⟩
def findA (l : List Atr) (s : ByteArray) : Option Atr := l.find? fun a => a.name.toList == s.toList
theorem AtrR.zero (D : Nat) (w : World) : AtrR D w Atr.zero [.string ⟨#[]⟩, .int .i64 0, .int .i64 0, .bool false] [] := ⟨rfl, ⟨by simp [Atr.zero, ByteArray.size, maxLen], by decide, by decide⟩, rfl, rfl, rfl, rfl, rfl⟩
def Found (D : Nat) (w : World) (o : Option Atr) (en : Ending) (w' : World) : Prop :=
  ∃ us F', en = .returned (.tuple #[.agg (List.toArray us), .bool o.isSome]) ∧ AtrR D w' (o.getD Atr.zero) us F' ∧ Fresh w.heap.size w' F' ∧ Below w.heap.size w w'
end Go.Proofs.YtjddmboaaebbiaaGreatDoor
