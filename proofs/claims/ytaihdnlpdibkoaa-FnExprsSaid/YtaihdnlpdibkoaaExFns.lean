/- Expressions: levels, remote attributes. Conditions: none beyond that the expression can be read. -/
import Derived.Test.YtaihdnlpdibkoaaExCopy
namespace Go.Proofs.Ytaihdnlpdibkoaa
set_option maxRecDepth 100000
open Go.RowKit Go.WideShapes

def lvN (n : Int) : Int := if n = 9 ∨ n = 10 then 1 else if n = 1 ∨ n = 2 ∨ n = 6 ∨ n = 8 then 2 else if n = 3 ∨ n = 7 then 3 else 4
def levH (h : ExH) : Int := if h.kind = 5 then 0 else if h.kind = 4 then lvN h.n else 4
/-- A node that fulfils something. -/
def anyE (P : Ex → Bool) : Nat → Ex → Bool
  | 0, _ => false
  | d + 1, e => e.args.any (anyE P d) || P e
theorem any_take_false {α : Type} {f : α → Bool} {xs : List α} {k : Nat} {x : α} (hx : xs[k]? = some x) (h : (xs.take k).any f = false) (hf : f x = false) : (xs.take (k + 1)).any f = false := by rw [take_snoc hx, List.any_append, h]; simp [hf]
theorem any_hit {α : Type} {f : α → Bool} {xs : List α} {k : Nat} {x : α} (hx : xs[k]? = some x) (hf : f x = true) : xs.any f = true := List.any_eq_true.2 ⟨x, List.mem_of_getElem? hx, hf⟩
def isRem (e : Ex) : Bool := e.h.kind == 8
theorem s_HasRemote : ∀ (d : Nat) (e : Ex) (cs : List Value) (F : List Nat) (w : World), ExR d w e cs F →
    Calls Try.prog 34 #[.agg cs.toArray] w fun en w' => en = .returned (.bool (anyE isRem d e)) ∧ Below w.heap.size w w'
  | 0, _, _, _, _, h => h.elim
  | d + 1, e, cs, F, w, h => by
    obtain ⟨A, cap, rfl, hok, hl, hm, hs⟩ := ex_form h
    have HF := hide (hs.lt (ExR.good d))
    generalize hq : anyE isRem (d + 1) e = q
    have hq' : (e.args.any (anyE isRem d) || (e.h.kind == 8)) = q := hq
    obtain ⟨⟨k, n, p, t, s, m⟩, l⟩ := e
    unfold maxLen at hm
    simp only [Ex.args, Ex.h] at hs hl hm HF hq'
    have Hq := hide hq'
    show Calls _ _ #[.agg #[.int .i64 k, .int .i64 n, .int .i64 p, .int .i64 t, .string s, .string m, .slice A l.length cap]] w _
    generalize hbx : Obj.cells #[.int .i64 k, .int .i64 n, .int .i64 p, .int .i64 t, .string s, .string m, .slice A l.length cap] 52 = bx
    have HC := hide (CellsAt.new w [.int .i64 k, .int .i64 n, .int .i64 p, .int .i64 t, .string s, .string m, .slice A l.length cap] 52)
    rw [hbx] at HC
    obtain ⟨c0, _, _, _, _, _, c6⟩ := HC.out.seven0
    have Hs := hide hs
    clear hs hok h hq hq'
    go_enter Try.func34, Try.ntmps34
    go_wp2_with fail
    go_loopw [3] (fun i wr => ∃ j : Nat, j ≤ l.length ∧ i = .int .i64 j ∧ Hid ((l.take j).any (anyE isRem d) = false) ∧ Hid (Below (w.heap.size + 1) (w.alloc bx) wr)) (fun i _ => l.length - (intOf i).toNat)
    case atStart => exact ⟨0, by omega, rfl, hide rfl, hide (by rw [← hbx]; exact Below.refl _ _)⟩
    case round =>
      obtain ⟨j, hj, rfl, Hno, Hb⟩ := hrel
      obtain ⟨c0, _, _, _, _, _, c6⟩ := (HC.out.below Hb.out (by omega)).seven0
      have Hb1 : Hid (Below w.heap.size w wr) := hide (box_below Hb.out)
      by_cases hlt : j < l.length
      · have hx : l[j]? = some l[j] := List.getElem?_eq_getElem hlt
        generalize l[j] = x at hx
        have Hx := hide hx
        obtain ⟨b, off, A', cap', Fk, hA, hbF, hFk, _, hl', hm', hcat, hR⟩ := ex_get (Hs.out.below (ExR.good d) Hb1.out HF.out) hx
        subst hA
        obtain ⟨e0, e1, e2, e3, e4, e5, e6⟩ := hcat.seven
        have hblt := Nat.lt_of_lt_of_le (HF.out b hbF) Hb1.out.size
        have HR := hide hR
        have hbz := Hb.out.size
        rw [World.size_alloc] at hbz
        clear hx hR hcat hFk hbF hl' hm'
        go_wp2_with fail
        refine Calls.mono (s_HasRemote d x _ Fk _ HR.out) ?_
        rintro en w2 ⟨rfl, hb2⟩
        have HB2 : Hid (Below (w.heap.size + 1) (w.alloc bx) w2) := hide (Hb.out.trans (hb2.mono (by omega)))
        clear hb2
        cases hxr : anyE isRem d x
        · have Hxr := hide hxr
          clear hxr
          go_wp2_with fail
          go_roundw
          case rel => exact ⟨j + 1, by omega, by go_num, hide (any_take_false Hx.out Hno.out Hxr.out), HB2⟩
          case measure => simp [intOf]; omega
        · have Hq2 : Hid (q = true) := hide (by rw [← Hq.out, any_hit Hx.out hxr]; rfl)
          go_wp2_with fail
          go_ret
          exact ⟨ret_bool Hq2.out.symm, box_below HB2.out⟩
      · have hjl : j = l.length := by omega
        have Hq2 : Hid (q = (k == 8)) := hide (by have := Hno.out; rw [hjl, List.take_length] at this; rw [← Hq.out, this]; rfl)
        go_wp2_with fail
        go_ret
        exact ⟨ret_bool Hq2.out.symm, Hb1.out⟩

/-- All nodes fulfil something. -/
def allE (P : Ex → Bool) : Nat → Ex → Bool
  | 0, _ => true
  | d + 1, e => P e && e.args.all (allE P d)
def notRem (e : Ex) : Bool := e.h.kind != 8
theorem i_notRem {d : Nat} (e : Ex) (cs : List Value) (F : List Nat) (w : World) (h : ExR d w e cs F) : Calls Try.prog 75 #[.agg cs.toArray] w fun en w' => en = .returned (.bool (notRem e)) ∧ Below w.heap.size w w' := by
  match d, h with
  | d + 1, h =>
  obtain ⟨A, cap, rfl, _, _, _, _⟩ := ex_form h
  obtain ⟨⟨k, n, p, t, s, m⟩, l⟩ := e
  show Calls _ _ #[.agg #[.int .i64 k, .int .i64 n, .int .i64 p, .int .i64 t, .string s, .string m, .slice A l.length cap]] w _
  go_enter Try.func75, Try.ntmps75
  go_wp2_with fail
  go_ret
  exact ⟨rfl, (Below.refl _ _).alloc (Nat.le_refl _) _⟩

def EvN_rem (d : Nat) : Prop := ∀ (e : Ex) (cs : List Value) (F : List Nat) (w : World), ExR d w e cs F →
  Calls Try.prog 58 #[.agg cs.toArray, .func (.func 75) #[] #[]] w fun en w' => en = .returned (.bool (allE notRem d e)) ∧ Below w.heap.size w w'
set_option maxRecDepth 100000 in
/-- The closure: an argument that fails. -/
theorem clo_rem {d : Nat} (hE : EvN_rem d) (e : Ex) (cs : List Value) (F : List Nat) (w : World) (B : Nat) (h : ExR d w e cs F) (hc : w.cell? ⟨B, 0, none⟩ = some (.func (.func 75) #[] #[])) (hF : ∀ b ∈ F, b < w.heap.size) :
    Calls Try.prog 90 #[.agg cs.toArray, .pointer (some ⟨B, 0, none⟩)] w fun en w' => en = .returned (.bool !(allE notRem d e)) ∧ Below w.heap.size w w' := by
  match d, h with
  | d + 1, h =>
  obtain ⟨A, cap, rfl, hok, hl, hm, hs⟩ := ex_form h
  have HR := hide h
  have HF := hide hF
  have HE := hide hE
  obtain ⟨⟨k, n, p, t, s, m⟩, l⟩ := e
  have hlt := cell_lt hc
  simp only [Ex.args, Ex.h, ExH.cells] at HR
  show Calls _ _ #[.agg #[.int .i64 k, .int .i64 n, .int .i64 p, .int .i64 t, .string s, .string m, .slice A l.length cap], .pointer (some ⟨B, 0, none⟩)] w _
  generalize Ex.mk ⟨k, n, p, t, s, m⟩ l = e at HR ⊢
  clear h hs hok hl hm hE
  go_enter Try.func90, Try.ntmps90
  go_wp2_with fail
  refine Calls.mono (HE.out e _ F _ ((ExR.good (d + 1)).below HR.out ((Below.refl _ _).alloc (Nat.le_refl _) _) HF.out)) ?_
  rintro en w2 ⟨rfl, hb2⟩
  have HB2 : Hid (Below w.heap.size w w2) := hide (((Below.refl _ _).alloc (Nat.le_refl _) _).trans (hb2.mono (by simp)))
  clear hb2
  go_wp2_with fail
  go_ret
  exact ⟨rfl, HB2.out⟩

/-- Does every argument fulfil it? -1, or the index of one that does not. -/
def IdxOf_rem (l : List Ex) (d : Nat) (en : Ending) : Prop := (en = .returned (.int .i64 (-1)) ∧ l.all (allE notRem d) = true) ∨ ∃ r : Nat, en = .returned (.int .i64 r) ∧ l.all (allE notRem d) = false
theorem idx_rem {d : Nat} (hE : EvN_rem d) (l : List Ex) (A : Option Addr) (cap : Nat) (F : List Nat) (w : World) (B : Nat) (hs : SlR 7 (ExR d) w l (.slice A l.length cap) F) (hc : w.cell? ⟨B, 0, none⟩ = some (.func (.func 75) #[] #[])) :
    Calls Try.prog 116 #[.slice A l.length cap, .func (.func 90) #[] #[.pointer (some ⟨B, 0, none⟩)]] w fun en w' => IdxOf_rem l d en ∧ Below w.heap.size w w' := by
  have HF := hide (hs.lt (ExR.good d))
  obtain ⟨_, hlc, hm⟩ := hs.bnd
  unfold maxLen at hm
  have Hs := hide hs
  have HE := hide hE
  have hBlt := cell_lt hc
  have Hc := hide hc
  clear hs hE hc
  go_enter Try.func116, Try.ntmps116
  go_wp2_with fail
  go_loopw [8] (fun i wr => ∃ j : Nat, j ≤ l.length ∧ i = .int .i64 j ∧ Hid ((l.take j).all (allE notRem d) = true) ∧ Hid (Below w.heap.size w wr)) (fun i _ => l.length - (intOf i).toNat)
  case atStart => exact ⟨0, by omega, rfl, hide rfl, hide (Below.refl _ _)⟩
  case round =>
    obtain ⟨j, hj, rfl, Hall, Hb⟩ := hrel
    by_cases hlt : j < l.length
    · have hx : l[j]? = some l[j] := List.getElem?_eq_getElem hlt
      generalize l[j] = x at hx
      have Hx := hide hx
      obtain ⟨b, off, A', cap', Fk, hA, hbF, hFk, _, hl', hm', hcat, hR⟩ := ex_get (Hs.out.below (ExR.good d) Hb.out HF.out) hx
      subst hA
      obtain ⟨e0, e1, e2, e3, e4, e5, e6⟩ := hcat.seven
      have hblt := Nat.lt_of_lt_of_le (HF.out b hbF) Hb.out.size
      have HR := hide hR
      have HFk : Hid (∀ i ∈ Fk, i < wr.heap.size) := hide fun i hi => Nat.lt_of_lt_of_le (HF.out i (hFk i hi)) Hb.out.size
      have Hcw : Hid (wr.cell? ⟨B, 0, none⟩ = some (.func (.func 75) #[] #[])) := hide ((Hb.out.cell (p := ⟨B, 0, none⟩) hBlt).trans Hc.out)
      clear hx hR hcat hFk hbF hl' hm'
      go_wp2_with fail
      refine Calls.mono (clo_rem HE.out x _ Fk _ B HR.out Hcw.out HFk.out) ?_
      rintro en w2 ⟨rfl, hb2⟩
      have HB2 : Hid (Below w.heap.size w w2) := hide (Hb.out.trans (hb2.mono Hb.out.size))
      clear hb2
      cases hxr : allE notRem d x
      · have Hbad : Hid (l.all (allE notRem d) = false) := hide (by rw [Bool.eq_false_iff]; intro h; have := List.all_eq_true.1 h x (List.mem_of_getElem? Hx.out); rw [hxr] at this; cases this)
        clear hxr
        go_wp2_with fail
        go_ret
        exact ⟨.inr ⟨j, rfl, Hbad.out⟩, HB2.out⟩
      · have Hxr := hide hxr
        clear hxr
        go_wp2_with fail
        go_roundw
        case rel => exact ⟨j + 1, by omega, by go_num, hide (by rw [take_snoc Hx.out, List.all_append, Hall.out]; simp [Hxr.out]), HB2⟩
        case measure => simp [intOf]; omega
    · have hjl : j = l.length := by omega
      have Hall' : Hid (l.all (allE notRem d) = true) := hide (by have := Hall.out; rw [hjl, List.take_length] at this; exact this)
      go_wp2_with fail
      go_ret
      exact ⟨.inl ⟨rfl, Hall'.out⟩, Hb.out⟩
theorem con_rem {d : Nat} (hE : EvN_rem d) (l : List Ex) (A : Option Addr) (cap : Nat) (F : List Nat) (w : World) (B : Nat) (hs : SlR 7 (ExR d) w l (.slice A l.length cap) F) (hc : w.cell? ⟨B, 0, none⟩ = some (.func (.func 75) #[] #[])) :
    Calls Try.prog 89 #[.slice A l.length cap, .func (.func 90) #[] #[.pointer (some ⟨B, 0, none⟩)]] w fun en w' => en = .returned (.bool !(l.all (allE notRem d))) ∧ Below w.heap.size w w' := by
  have HI := hide (idx_rem hE l A cap F w B hs hc)
  clear hE hs hc
  go_enter Try.func89, Try.ntmps89
  go_wp2_with fail
  refine Calls.mono HI.out ?_
  rintro en w2 ⟨hr, hb2⟩
  have HB2 := hide hb2
  clear hb2
  rcases hr with ⟨rfl, ha⟩ | ⟨r, rfl, ha⟩
  all_goals
    have Ha := hide ha
    clear ha
    go_wp2_with fail
    go_ret
    exact ⟨ret_bool (by rw [Ha.out]; first | rfl | simp), HB2.out⟩
theorem evn_rem : ∀ d, EvN_rem d
  | 0 => fun _ _ _ _ h => h.elim
  | d + 1 => fun e cs F w h => by
    obtain ⟨A, cap, rfl, hok, hl, hm, hs⟩ := ex_form h
    have HF := hide (hs.lt (ExR.good d))
    have HFe := hide ((ExR.good (d + 1)).lt h)
    have H := hide h
    generalize hq : allE notRem (d + 1) e = q
    have hq' : (notRem e && e.args.all (allE notRem d)) = q := hq
    have Hq := hide hq'
    have HP : Hid (∀ W : World, Below w.heap.size w W → Calls Try.prog 75 #[.agg (e.h.cells (.slice A e.args.length cap)).toArray] W fun en w' => en = .returned (.bool (notRem e)) ∧ Below W.heap.size W w') := hide fun W hW => i_notRem e _ F W ((ExR.good (d + 1)).below H.out hW HFe.out)
    obtain ⟨⟨k, n, p, t, s, m⟩, l⟩ := e
    simp only [Ex.args, Ex.h, ExH.cells] at hs hl HF HFe H Hq HP
    generalize notRem (Ex.mk ⟨k, n, p, t, s, m⟩ l) = pe at HP Hq
    have HS : Hid (∀ (W : World) (B : Nat), Below w.heap.size w W → W.cell? ⟨B, 0, none⟩ = some (.func (.func 75) #[] #[]) → Calls Try.prog 89 #[.slice A l.length cap, .func (.func 90) #[] #[.pointer (some ⟨B, 0, none⟩)]] W fun en w' => en = .returned (.bool !(l.all (allE notRem d))) ∧ Below W.heap.size W w') := hide fun W B hW hc =>
      con_rem (evn_rem d) l A cap F W B (hs.below (ExR.good d) hW HF.out) hc
    show Calls _ _ #[.agg #[.int .i64 k, .int .i64 n, .int .i64 p, .int .i64 t, .string s, .string m, .slice A l.length cap], .func (.func 75) #[] #[]] w _
    clear hs hok h hq hq' hl hm
    have HC := hide (CellsAt.new w [.int .i64 k, .int .i64 n, .int .i64 p, .int .i64 t, .string s, .string m, .slice A l.length cap] 52)
    have HI := hide (CellsAt.new (w.alloc (.cells #[.int .i64 k, .int .i64 n, .int .i64 p, .int .i64 t, .string s, .string m, .slice A l.length cap] 52)) [.func (.func 75) #[] #[]] 62)
    cases pe
    · have Hq2 : Hid (q = false) := hide (by rw [← Hq.out]; rfl)
      go_enter Try.func58, Try.ntmps58
      go_wp2_with fail
      refine Calls.mono (HP.out _ (((Below.refl _ _).alloc (Nat.le_refl _) _).alloc (by simp) _)) ?_
      rintro en w2 ⟨rfl, hb2⟩
      have HB2 : Hid (Below w.heap.size w w2) := hide ((((Below.refl _ _).alloc (Nat.le_refl _) _).alloc (by simp) _).trans (hb2.mono (by simp; omega)))
      clear hb2
      go_wp2_with fail
      go_ret
      exact ⟨ret_bool Hq2.out.symm, HB2.out⟩
    · have Hq2 : Hid (q = l.all (allE notRem d)) := hide (by rw [← Hq.out]; rfl)
      go_enter Try.func58, Try.ntmps58
      go_wp2_with fail
      refine Calls.mono (HP.out _ (((Below.refl _ _).alloc (Nat.le_refl _) _).alloc (by simp) _)) ?_
      rintro en w2 ⟨rfl, hb2⟩
      have HB2 : Hid (Below w.heap.size w w2) := hide ((((Below.refl _ _).alloc (Nat.le_refl _) _).alloc (by simp) _).trans (hb2.mono (by simp; omega)))
      obtain ⟨_, _, _, _, _, _, c6⟩ := ((HC.out.below ((Below.refl (w.heap.size + 1) _).alloc (by simp) _) (by omega)).below hb2 (by simp; omega)).seven0
      have hcB : w2.cell? ⟨w.heap.size + 1, 0, none⟩ = some (.func (.func 75) #[] #[]) := by
        have := (HI.out.below hb2 (by simp)) 0 _ rfl
        simpa using this
      have HcB := hide hcB
      clear hb2 hcB
      go_wp2_with fail
      refine Calls.mono (HS.out _ _ HB2.out HcB.out) ?_
      rintro en w3 ⟨rfl, hb3⟩
      have HB3 : Hid (Below w.heap.size w w3) := hide (HB2.out.trans (hb3.mono HB2.out.size))
      clear hb3
      go_wp2_with fail
      go_ret
      exact ⟨ret_bool (by rw [Hq2.out]; first | done | simp), HB3.out⟩

theorem all_any (P Q : Ex → Bool) (hPQ : ∀ e, P e = !(Q e)) : ∀ d e, allE P d e = !(anyE Q d e)
  | 0, _ => rfl
  | d + 1, e => by
    simp only [allE, anyE]
    rw [hPQ e]
    have : e.args.all (allE P d) = !(e.args.any (anyE Q d)) := by
      rw [show allE P d = fun x => !(anyE Q d x) from funext (all_any P Q hPQ d)]
      simp [List.all_eq_not_any_not]
    rw [this]
    cases e.args.any (anyE Q d) <;> cases Q e <;> rfl
theorem i_HasRemote (d : Nat) (e : Ex) (cs : List Value) (F : List Nat) (w : World) (h : ExR d w e cs F) :
    Calls Try.prog 33 #[.agg cs.toArray] w fun en w' => en = .returned (.bool (anyE isRem d e)) ∧ Below w.heap.size w w' := by
  have HE : Hid (∀ W : World, Below w.heap.size w W → Calls Try.prog 58 #[.agg cs.toArray, .func (.func 75) #[] #[]] W fun en w' => en = .returned (.bool !(anyE isRem d e)) ∧ Below W.heap.size W w') := hide fun W hW => by
    have := evn_rem d e cs F W ((ExR.good d).below h hW ((ExR.good d).lt h))
    rw [all_any notRem isRem (fun e => rfl) d e] at this
    exact this
  match d, h with
  | d + 1, h =>
  obtain ⟨A, cap, rfl, _, _, _, _⟩ := ex_form h
  generalize anyE isRem (d + 1) e = q at HE ⊢
  obtain ⟨⟨k, n, p, t, s, m⟩, l⟩ := e
  simp only [Ex.args, Ex.h, ExH.cells] at HE
  show Calls _ _ #[.agg #[.int .i64 k, .int .i64 n, .int .i64 p, .int .i64 t, .string s, .string m, .slice A l.length cap]] w _
  clear h
  go_enter Try.func33, Try.ntmps33
  go_wp2_with fail
  refine Calls.mono (HE.out _ ((Below.refl _ _).alloc (Nat.le_refl _) _)) ?_
  rintro en w2 ⟨rfl, hb2⟩
  have HB2 : Hid (Below w.heap.size w w2) := hide (((Below.refl _ _).alloc (Nat.le_refl _) _).trans (hb2.mono (by simp)))
  clear hb2
  go_wp2_with fail
  go_ret
  exact ⟨ret_bool (by simp), HB2.out⟩
end Go.Proofs.Ytaihdnlpdibkoaa
