/- Several texts of one proof in one file: Expressions: sizes, copies into new memory, comparisons. Expressions: copies into new memory. Expressions, told as the other structs are: copies and comparisons. Conditions: each theorem names its own. -/
import Derived.Test.YthlhhnnlbpecnaaGreatGcsac
import Derived.Deep.OwnRows
import Derived.Deep.QuietTactic
import Derived.BigQuiet
import Derived.Deep.RegionHeld3
import Derived.Laws.MakeOwn
import Derived.Test.YthlhhnnlbpecnaaGreatGcsab

/- Expressions: sizes, copies into new memory, comparisons. Conditions: a size is asked with at most 2^20; a copy is asked of at most 2^20 arguments a node. -/
namespace Go.Proofs.YthlhhnnlbpecnaaGreat
set_option linter.unusedSimpArgs false
set_option linter.unusedVariables false
set_option maxRecDepth 100000
open Go.RowKit Go.WideShapes

/-- Lengths of texts and of argument lists, together. -/
def bulkE : Nat → Ex → Int
  | 0, _ => 0
  | d + 1, e => e.h.symbol.size + e.h.name.size + (e.args.length + sumBy (bulkE d) e.args)
theorem bulkE_nonneg : ∀ d e, 0 ≤ bulkE d e
  | 0, _ => Int.le_refl _
  | d + 1, e => by have := sumBy_nonneg (bulkE_nonneg d) e.args; simp only [bulkE]; omega
/-- A node more than its arguments' lists hold. -/
theorem cnt_le_bulk : ∀ d e, cntE d e ≤ 1 + bulkE d e
  | 0, _ => by simp [cntE, bulkE]
  | d + 1, e => by
    have h : ∀ l : List Ex, sumBy (cntE d) l ≤ l.length + sumBy (bulkE d) l := by
      intro l
      induction l with
      | nil => simp [sumBy]
      | cons x r ih => have := cnt_le_bulk d x; simp only [sumBy, List.length_cons]; omega
    have := h e.args
    simp only [cntE, bulkE]
    omega

def SzE (d : Nat) : Prop := ∀ (e : Ex) (cs : List Value) (F : List Nat) (w : World) (L : Int), ExR d w e cs F → 0 ≤ L → L ≤ 1048576 →
  Calls Tryz.prog 130 #[.agg cs.toArray, .int .i64 L] w fun en w' => Sized (bulkE d e) L en ∧ Below w.heap.size w w'
set_option maxRecDepth 100000 in
theorem l_szExprS {d : Nat} (hE : SzE d) (l : List Ex) (A : Option Addr) (cap : Nat) (F : List Nat) (w : World) (L : Int) (hs : SlR 7 (ExR d) w l (.slice A l.length cap) F) (h0 : 0 ≤ L) (h1 : L ≤ 1048576) :
    Calls Tryz.prog 156 #[.slice A l.length cap, .int .i64 L] w fun en w' => Sized (l.length + sumBy (bulkE d) l) L en ∧ Below w.heap.size w w' := by
  have HF := hide (hs.lt (ExR.good d))
  obtain ⟨_, hlc, hm⟩ := hs.bnd
  unfold maxLen at hm
  have Hs := hide hs
  have HE := hide hE
  have Hnn := hide (bulkE_nonneg d)
  clear hs hE
  by_cases hn : L < l.length
  · go_enter Tryz.func156, Tryz.ntmps156
    go_wp2_with fail
    go_ret
    exact ⟨⟨-1, rfl, .inl rfl⟩, Below.refl _ _⟩
  go_enter Tryz.func156, Tryz.ntmps156
  go_wp2_with fail
  go_loopw [1, 5] (fun c i wr => ∃ j : Nat, j ≤ l.length ∧ i = .int .i64 j ∧ c = .int .i64 (L - l.length - sumBy (bulkE d) (l.take j)) ∧ 0 ≤ L - l.length - sumBy (bulkE d) (l.take j) ∧ Hid (Below w.heap.size w wr)) (fun _ i _ => l.length - (intOf i).toNat)
  case atStart => exact ⟨0, by omega, rfl, by simp [sumBy], by simp [sumBy]; omega, hide (Below.refl _ _)⟩
  case round =>
    obtain ⟨j, hj, rfl, rfl, hge, Hb⟩ := hrel
    have hpos := sumBy_nonneg Hnn.out (l.take j)
    by_cases hlt : j < l.length
    · have hx : l[j]? = some l[j] := List.getElem?_eq_getElem hlt
      generalize l[j] = x at hx
      have Hsum := hide (sumBy_take_succ (f := bulkE d) hx)
      have hcx := Hnn.out x
      obtain ⟨b, off, A', cap', Fk, hA, hbF, hFk, _, hl', hm', hcat, hR⟩ := ex_get (Hs.out.below (ExR.good d) Hb.out HF.out) hx
      subst hA
      obtain ⟨e0, e1, e2, e3, e4, e5, e6⟩ := hcat.seven
      have hblt := Nat.lt_of_lt_of_le (HF.out b hbF) Hb.out.size
      have HR := hide hR
      clear hx hR hcat hFk hbF hl' hm'
      go_wp2_with fail
      refine Calls.mono (HE.out x _ Fk _ (L - l.length - sumBy (bulkE d) (l.take j)) HR.out (by omega) (by omega)) ?_
      rintro en w2 ⟨⟨r, rfl, hr⟩, hb2⟩
      have HB2 : Hid (Below w.heap.size w w2) := hide (Hb.out.trans (hb2.mono Hb.out.size))
      clear hb2
      rcases hr with rfl | ⟨hr0, hr1⟩
      · go_wp2_with fail
        go_ret
        exact ⟨⟨-1, rfl, .inl rfl⟩, HB2.out⟩
      · have Hr1 := hide hr1
        clear hr1
        go_wp2_with fail
        go_roundw
        case rel => exact ⟨j + 1, by omega, by go_num, by rw [Hsum.out, Hr1.out]; go_num, by rw [Hsum.out]; have := Hr1.out; omega, HB2⟩
        case measure => simp [intOf]; omega
    · have hjl : j = l.length := by omega
      rw [hjl, List.take_length] at hge
      rw [hjl, List.take_length]
      go_wp2_with fail
      go_ret
      exact ⟨⟨_, rfl, .inr ⟨hge, by omega⟩⟩, Hb.out⟩
set_option maxRecDepth 100000 in
theorem l_szExpr : ∀ d, SzE d
  | 0 => fun _ _ _ _ _ h _ _ => h.elim
  | d + 1 => fun e cs F w L h h0 h1 => by
    obtain ⟨A, cap, rfl, hok, hl, hm, hs⟩ := ex_form h
    have HF := hide (hs.lt (ExR.good d))
    obtain ⟨⟨k, n, p, t, s, m⟩, l⟩ := e
    unfold maxLen at hm
    simp only [Ex.args] at hs hl hm HF
    have hss := hok.symbol
    have hsm := hok.name
    simp only [Ex.h] at hss hsm
    unfold maxLen at hss hsm
    generalize hbx : Obj.cells #[.int .i64 k, .int .i64 n, .int .i64 p, .int .i64 t, .string s, .string m, .slice A l.length cap] 137 = bx
    have HC := hide (CellsAt.new w [.int .i64 k, .int .i64 n, .int .i64 p, .int .i64 t, .string s, .string m, .slice A l.length cap] 137)
    rw [hbx] at HC
    obtain ⟨_, _, _, _, _, _, c6⟩ := HC.out.seven0
    have Hs := hide hs
    have hnn := sumBy_nonneg (bulkE_nonneg d) l
    have Hbk : Hid (bulkE (d + 1) (.mk ⟨k, n, p, t, s, m⟩ l) = s.size + m.size + (l.length + sumBy (bulkE d) l)) := hide rfl
    generalize bulkE (d + 1) (.mk ⟨k, n, p, t, s, m⟩ l) = bk at Hbk
    have HS : Hid (∀ (L : Int), 0 ≤ L → L ≤ 1048576 → Calls Tryz.prog 156 #[.slice A l.length cap, .int .i64 L] (w.alloc bx) fun en w' => Sized (l.length + sumBy (bulkE d) l) L en ∧ Below (w.heap.size + 1) (w.alloc bx) w') := hide fun L h0 h1 => by
      have := l_szExprS (l_szExpr d) l A cap F (w.alloc bx) L (Hs.out.below (ExR.good d) ((Below.refl w.heap.size w).alloc (Nat.le_refl _) bx) HF.out) h0 h1
      rw [World.size_alloc] at this
      exact this
    show Calls _ _ #[.agg #[.int .i64 k, .int .i64 n, .int .i64 p, .int .i64 t, .string s, .string m, .slice A l.length cap], .int .i64 L] w _
    obtain ⟨c0, c1, c2, c3, c4, c5, c6'⟩ := HC.out.seven0
    clear hs hok h c6'
    by_cases hq1 : L < s.size
    · go_enter Tryz.func130, Tryz.ntmps130
      go_wp2_with fail
      go_ret
      exact ⟨⟨-1, rfl, .inl rfl⟩, by rw [← hbx]; exact (Below.refl _ _).alloc (Nat.le_refl _) _⟩
    by_cases hq2 : L - s.size < m.size
    · go_enter Tryz.func130, Tryz.ntmps130
      go_wp2_with fail
      go_ret
      exact ⟨⟨-1, rfl, .inl rfl⟩, by rw [← hbx]; exact (Below.refl _ _).alloc (Nat.le_refl _) _⟩
    go_enter Tryz.func130, Tryz.ntmps130
    go_wp2_with fail
    refine Calls.mono (HS.out (L - s.size - m.size) (by omega) (by omega)) ?_
    rintro en w2 ⟨⟨r, rfl, hr⟩, hb2⟩
    have HB2 := hide hb2
    clear hb2
    rcases hr with rfl | ⟨hr0, hr1⟩
    · go_wp2_with fail
      go_ret
      exact ⟨⟨-1, rfl, .inl rfl⟩, box_below HB2.out⟩
    · have Hr1 := hide hr1
      clear hr1
      go_wp2_with fail
      go_ret
      exact ⟨⟨_, rfl, .inr ⟨hr0, by rw [Hr1.out, Hbk.out]; omega⟩⟩, box_below HB2.out⟩

/-! ### Comparing -/
def eqHead (a b : ExH) : Bool := (a.kind == b.kind) && ((a.n == b.n) && ((a.pos == b.pos) && ((a.type == b.type) && ((a.symbol.toList == b.symbol.toList) && (a.name.toList == b.name.toList)))))
def eqL {α : Type} (f : α → α → Bool) : List α → List α → Bool
  | [], [] => true
  | x :: r, y :: r' => f x y && eqL f r r'
  | _, _ => false
theorem eqL_len {α : Type} {f : α → α → Bool} : ∀ {xs ys : List α}, xs.length ≠ ys.length → eqL f xs ys = false
  | [], [], h => absurd rfl h
  | [], _ :: _, _ => rfl
  | _ :: _, [], _ => rfl
  | _ :: _, _ :: _, h => by simp only [eqL]; rw [eqL_len (fun e => h (by simp [e]))]; simp
theorem eqL_bad {α : Type} {f : α → α → Bool} : ∀ {xs ys : List α} {k : Nat} {x y : α}, xs[k]? = some x → ys[k]? = some y → f x y = false → eqL f xs ys = false
  | [], _, _, _, _, h, _, _ => by cases h
  | _ :: _, [], _, _, _, _, h, _ => by cases h
  | a :: r, b :: r', 0, x, y, hx, hy, h => by
    simp at hx hy
    subst hx hy
    simp [eqL, h]
  | a :: r, b :: r', k + 1, x, y, hx, hy, h => by
    simp only [eqL]
    rw [eqL_bad (xs := r) (ys := r') (k := k) (by simpa using hx) (by simpa using hy) h]
    simp
theorem eqL_all {α : Type} {f : α → α → Bool} : ∀ {xs ys : List α}, xs.length = ys.length → (∀ (k : Nat) (x y : α), xs[k]? = some x → ys[k]? = some y → f x y = true) → eqL f xs ys = true
  | [], [], _, _ => rfl
  | [], _ :: _, h, _ => by cases h
  | _ :: _, [], h, _ => by cases h
  | a :: r, b :: r', h, hk => by
    simp only [eqL]
    rw [hk 0 a b rfl rfl, eqL_all (by simpa using h) (fun k x y hx hy => hk (k + 1) x y (by simpa using hx) (by simpa using hy))]
    rfl
def eqE : Nat → Ex → Ex → Bool
  | 0, _, _ => true
  | d + 1, a, b => eqHead a.h b.h && eqL (eqE d) a.args b.args
theorem eqE_refl : ∀ d e, eqE d e e = true
  | 0, _ => rfl
  | d + 1, e => by
    simp only [eqE]
    rw [eqL_all rfl (fun k x y hx hy => by rw [hx] at hy; injection hy with hy; rw [hy]; exact eqE_refl d y)]
    simp [eqHead]

def EqE (d : Nat) : Prop := ∀ (a b : Ex) (ca cb : List Value) (Fa Fb : List Nat) (w : World), ExR d w a ca Fa → ExR d w b cb Fb →
  Calls Tryz.prog 155 #[.agg ca.toArray, .agg cb.toArray] w fun en w' => en = .returned (.bool (eqE d a b)) ∧ Below w.heap.size w w'
theorem l_eqExprS {d : Nat} (hE : EqE d) (l l' : List Ex) (A A' : Option Addr) (cap cap' : Nat) (F F' : List Nat) (w : World) (hs : SlR 7 (ExR d) w l (.slice A l.length cap) F) (hs' : SlR 7 (ExR d) w l' (.slice A' l'.length cap') F') :
    Calls Tryz.prog 168 #[.slice A l.length cap, .slice A' l'.length cap'] w fun en w' => en = .returned (.bool (eqL (eqE d) l l')) ∧ Below w.heap.size w w' := by
  have HF := hide (hs.lt (ExR.good d))
  have HF' := hide (hs'.lt (ExR.good d))
  obtain ⟨_, hlc, hm⟩ := hs.bnd
  obtain ⟨_, hlc', hm'⟩ := hs'.bnd
  unfold maxLen at hm hm'
  have Hs := hide hs
  have Hs' := hide hs'
  have HE := hide hE
  clear hs hs' hE
  by_cases hll : l.length = l'.length
  · have Hll := hide hll
    generalize hq : l'.length = q at *
    have Hq := hide hq
    clear hq
    subst hll
    go_enter Tryz.func168, Tryz.ntmps168
    go_wp2_with fail
    go_loopw [5] (fun i wr => ∃ j : Nat, j ≤ l.length ∧ i = .int .i64 j ∧ Hid (∀ k x y, k < j → l[k]? = some x → l'[k]? = some y → eqE d x y = true) ∧ Hid (Below w.heap.size w wr)) (fun i _ => l.length - (intOf i).toNat)
    case atStart => exact ⟨0, by omega, rfl, hide (fun k x y h => absurd h (by omega)), hide (Below.refl _ _)⟩
    case round =>
      obtain ⟨j, hj, rfl, Hall, Hb⟩ := hrel
      by_cases hlt : j < l.length
      · have hx : l[j]? = some l[j] := List.getElem?_eq_getElem hlt
        have hlt' : j < l'.length := by rw [Hq.out]; exact hlt
        have hy : l'[j]? = some l'[j] := List.getElem?_eq_getElem hlt'
        generalize l[j] = x at hx
        generalize l'[j] = y at hy
        clear hlt'
        have Hx := hide hx
        have Hy := hide hy
        obtain ⟨b, off, A1, cap1, Fk, hA, hbF, hFk, _, hl1, hm1, hcat, hR⟩ := ex_get (Hs.out.below (ExR.good d) Hb.out HF.out) hx
        subst hA
        obtain ⟨b', off', A2, cap2, Fk', hA, hbF', hFk', _, hl2, hm2, hcat', hR'⟩ := ex_get (Hs'.out.below (ExR.good d) Hb.out HF'.out) hy
        subst hA
        obtain ⟨e0, e1, e2, e3, e4, e5, e6⟩ := hcat.seven
        obtain ⟨g0, g1, g2, g3, g4, g5, g6⟩ := hcat'.seven
        have hblt := Nat.lt_of_lt_of_le (HF.out b hbF) Hb.out.size
        have hblt' := Nat.lt_of_lt_of_le (HF'.out b' hbF') Hb.out.size
        have HR := hide hR
        have HR' := hide hR'
        clear hx hy hR hR' hcat hcat' hFk hFk' hbF hbF' hl1 hm1 hl2 hm2
        cases hxy : eqE d x y
        · have Hbad := hide (eqL_bad (f := eqE d) Hx.out Hy.out hxy)
          go_wp2_with fail
          go_region_held3 (fun w' => w'.cell? ⟨b, off + j * 7, none⟩ = some (.int .i64 x.h.kind) ∧ w'.cell? ⟨b, off + j * 7 + 1, none⟩ = some (.int .i64 x.h.n) ∧ w'.cell? ⟨b, off + j * 7 + 2, none⟩ = some (.int .i64 x.h.pos) ∧ w'.cell? ⟨b, off + j * 7 + 3, none⟩ = some (.int .i64 x.h.type) ∧ w'.cell? ⟨b, off + j * 7 + 4, none⟩ = some (.string x.h.symbol) ∧ w'.cell? ⟨b, off + j * 7 + 5, none⟩ = some (.string x.h.name) ∧ w'.cell? ⟨b, off + j * 7 + 6, none⟩ = some (.slice A1 x.args.length cap1) ∧ w'.cell? ⟨b', off' + j * 7, none⟩ = some (.int .i64 y.h.kind) ∧ w'.cell? ⟨b', off' + j * 7 + 1, none⟩ = some (.int .i64 y.h.n) ∧ w'.cell? ⟨b', off' + j * 7 + 2, none⟩ = some (.int .i64 y.h.pos) ∧ w'.cell? ⟨b', off' + j * 7 + 3, none⟩ = some (.int .i64 y.h.type) ∧ w'.cell? ⟨b', off' + j * 7 + 4, none⟩ = some (.string y.h.symbol) ∧ w'.cell? ⟨b', off' + j * 7 + 5, none⟩ = some (.string y.h.name) ∧ w'.cell? ⟨b', off' + j * 7 + 6, none⟩ = some (.slice A2 y.args.length cap2))
            (first | go_keep | ((repeat' apply And.intro) <;> first | exact (hb2.cell (p := ⟨b, _, none⟩) hblt).trans (by assumption) | exact (hb2.cell (p := ⟨b', _, none⟩) hblt').trans (by assumption)))
            ((go_at_call 155; refine Calls.mono (HE.out x y _ _ Fk Fk' _ ((ExR.good d).heap HR.out rfl) ((ExR.good d).heap HR'.out rfl)) ?_; rintro en w2 ⟨rfl, hb2⟩))
          go_wp2_with fail
          go_ret
          exact ⟨ret_bool Hbad.out.symm, Hb.out.drew.trans (hb2.mono Hb.out.size)⟩
        · have Hxy := hide hxy
          go_wp2_with fail
          go_region_held3 (fun w' => w'.cell? ⟨b, off + j * 7, none⟩ = some (.int .i64 x.h.kind) ∧ w'.cell? ⟨b, off + j * 7 + 1, none⟩ = some (.int .i64 x.h.n) ∧ w'.cell? ⟨b, off + j * 7 + 2, none⟩ = some (.int .i64 x.h.pos) ∧ w'.cell? ⟨b, off + j * 7 + 3, none⟩ = some (.int .i64 x.h.type) ∧ w'.cell? ⟨b, off + j * 7 + 4, none⟩ = some (.string x.h.symbol) ∧ w'.cell? ⟨b, off + j * 7 + 5, none⟩ = some (.string x.h.name) ∧ w'.cell? ⟨b, off + j * 7 + 6, none⟩ = some (.slice A1 x.args.length cap1) ∧ w'.cell? ⟨b', off' + j * 7, none⟩ = some (.int .i64 y.h.kind) ∧ w'.cell? ⟨b', off' + j * 7 + 1, none⟩ = some (.int .i64 y.h.n) ∧ w'.cell? ⟨b', off' + j * 7 + 2, none⟩ = some (.int .i64 y.h.pos) ∧ w'.cell? ⟨b', off' + j * 7 + 3, none⟩ = some (.int .i64 y.h.type) ∧ w'.cell? ⟨b', off' + j * 7 + 4, none⟩ = some (.string y.h.symbol) ∧ w'.cell? ⟨b', off' + j * 7 + 5, none⟩ = some (.string y.h.name) ∧ w'.cell? ⟨b', off' + j * 7 + 6, none⟩ = some (.slice A2 y.args.length cap2))
            (first | go_keep | ((repeat' apply And.intro) <;> first | exact (hb2.cell (p := ⟨b, _, none⟩) hblt).trans (by assumption) | exact (hb2.cell (p := ⟨b', _, none⟩) hblt').trans (by assumption)))
            ((go_at_call 155; refine Calls.mono (HE.out x y _ _ Fk Fk' _ ((ExR.good d).heap HR.out rfl) ((ExR.good d).heap HR'.out rfl)) ?_; rintro en w2 ⟨rfl, hb2⟩))
          have HB2 : Hid (Below w.heap.size w w2) := hide (Hb.out.drew.trans (hb2.mono Hb.out.size))
          clear hb2
          go_wp2_with fail
          go_roundw
          case rel =>
            refine ⟨j + 1, by omega, by go_num, hide (fun k x' y' hk hx' hy' => ?_), HB2⟩
            by_cases hkj : k < j
            · exact Hall.out k x' y' hkj hx' hy'
            · have hkj' : k = j := by omega
              subst hkj'
              rw [Hx.out] at hx'
              rw [Hy.out] at hy'
              injection hx' with hx'
              injection hy' with hy'
              rw [← hx', ← hy']
              exact Hxy.out
          case measure => simp [intOf]; omega
      · have Hyes : Hid (eqL (eqE d) l l' = true) := hide (eqL_all Hq.out.symm (fun k x y hx hy => Hall.out k x y (by have := (List.getElem?_eq_some_iff.1 hx).1; omega) hx hy))
        go_wp2_with fail
        go_ret
        exact ⟨ret_bool Hyes.out.symm, Hb.out⟩
  · have hne : ((l.length : Int) != (l'.length : Int)) = true := by rw [bne_iff_ne]; omega
    have Hno := hide (eqL_len (f := eqE d) hll)
    clear hll
    go_enter Tryz.func168, Tryz.ntmps168
    go_wp2_with fail
    go_ret
    exact ⟨ret_bool Hno.out.symm, Below.refl _ _⟩

theorem eqE_head {d : Nat} {a b : Ex} (h : eqHead a.h b.h = false) : eqE (d + 1) a b = false := by simp only [eqE]; rw [h]; rfl
theorem eqE_args {d : Nat} {a b : Ex} (h : eqHead a.h b.h = true) : eqE (d + 1) a b = eqL (eqE d) a.args b.args := by simp only [eqE]; rw [h]; rfl
set_option maxRecDepth 100000 in
set_option maxHeartbeats 1000000 in
theorem l_eqExpr : ∀ d, EqE d
  | 0 => fun _ _ _ _ _ _ _ h _ => h.elim
  | d + 1 => fun a b ca cb Fa Fb w h h' => by
    obtain ⟨A, cap, rfl, _, hl, hm, hs⟩ := ex_form h
    obtain ⟨A', cap', rfl, _, hl', hm', hs'⟩ := ex_form h'
    have HF := hide (hs.lt (ExR.good d))
    have HF' := hide (hs'.lt (ExR.good d))
    generalize hqa : eqE (d + 1) a b = q
    have Hq := hide hqa
    clear hqa h h'
    obtain ⟨⟨k, n, p, t, s, m⟩, l⟩ := a
    obtain ⟨⟨k', n', p', t', s', m'⟩, l'⟩ := b
    simp only [Ex.args] at hs hs' hl hl' HF HF'
    show Calls _ _ #[.agg #[.int .i64 k, .int .i64 n, .int .i64 p, .int .i64 t, .string s, .string m, .slice A l.length cap], .agg #[.int .i64 k', .int .i64 n', .int .i64 p', .int .i64 t', .string s', .string m', .slice A' l'.length cap']] w _
    have Hq0 : Hid (eqHead ⟨k, n, p, t, s, m⟩ ⟨k', n', p', t', s', m'⟩ = false → q = false) := hide (fun hh => by rw [← Hq.out]; exact eqE_head hh)
    have Hq1 : Hid (eqHead ⟨k, n, p, t, s, m⟩ ⟨k', n', p', t', s', m'⟩ = true → q = eqL (eqE d) l l') := hide (fun hh => by rw [← Hq.out]; exact eqE_args hh)
    clear Hq
    have HS : Hid (∀ W : World, Below w.heap.size w W → Calls Tryz.prog 168 #[.slice A l.length cap, .slice A' l'.length cap'] W fun en w' => en = .returned (.bool (eqL (eqE d) l l')) ∧ Below W.heap.size W w') := hide fun W hW =>
      l_eqExprS (l_eqExpr d) l l' A A' cap cap' Fa Fb W (hs.below (ExR.good d) hW HF.out) (hs'.below (ExR.good d) hW HF'.out)
    clear hs hs' HF HF' hm hm'
    by_cases h1 : k = k'
    · by_cases h2 : n = n'
      · by_cases h3 : p = p'
        · by_cases h4 : t = t'
          · by_cases h5 : s = s'
            · by_cases h6 : m = m'
              · subst h1 h2 h3 h4 h5 h6
                have hqq := Hq1.out (by simp [eqHead])
                rw [hqq]
                cases hr : eqL (eqE d) l l'
                all_goals
                  rw [hr] at HS
                  go_enter Tryz.func155, Tryz.ntmps155
                  go_wp2_with fail
                  refine Calls.mono (HS.out _ (((Below.refl _ _).alloc (Nat.le_refl _) _).alloc (by simp) _)) ?_
                  rintro en w2 ⟨rfl, hb2⟩
                  have hB2 : Below w.heap.size w w2 := (((Below.refl _ _).alloc (Nat.le_refl _) _).alloc (by simp) _).trans (hb2.mono (by simp; omega))
                  go_wp2_with fail
                  go_ret
                  exact ⟨rfl, hB2⟩
              · have e1 : (m.toList != m'.toList) = true := by rw [bne_iff_ne]; intro e; exact h6 (by simpa [bytes_beq] using beq_iff_eq.2 e)
                have e2 : (m.toList == m'.toList) = false := by rw [bytes_beq]; simpa using h6
                subst h1 h2 h3 h4 h5
                have hqq := Hq0.out (by simp [eqHead, e2])
                rw [hqq]
                go_enter Tryz.func155, Tryz.ntmps155
                go_wp2_with fail
                go_ret
                exact ⟨rfl, ((Below.refl _ _).alloc (Nat.le_refl _) _).alloc (by simp) _⟩
            · have e1 : (s.toList != s'.toList) = true := by rw [bne_iff_ne]; intro e; exact h5 (by simpa [bytes_beq] using beq_iff_eq.2 e)
              have e2 : (s.toList == s'.toList) = false := by rw [bytes_beq]; simpa using h5
              subst h1 h2 h3 h4
              have hqq := Hq0.out (by simp [eqHead, e2])
              rw [hqq]
              go_enter Tryz.func155, Tryz.ntmps155
              go_wp2_with fail
              go_ret
              exact ⟨rfl, ((Below.refl _ _).alloc (Nat.le_refl _) _).alloc (by simp) _⟩
          · have e1 : (t != t') = true := by rw [bne_iff_ne]; exact h4
            have e2 : (t == t') = false := by rw [beq_eq_false_iff_ne]; exact h4
            subst h1 h2 h3
            have hqq := Hq0.out (by simp [eqHead, e2])
            rw [hqq]
            go_enter Tryz.func155, Tryz.ntmps155
            go_wp2_with fail
            go_ret
            exact ⟨rfl, ((Below.refl _ _).alloc (Nat.le_refl _) _).alloc (by simp) _⟩
        · have e1 : (p != p') = true := by rw [bne_iff_ne]; exact h3
          have e2 : (p == p') = false := by rw [beq_eq_false_iff_ne]; exact h3
          subst h1 h2
          have hqq := Hq0.out (by simp [eqHead, e2])
          rw [hqq]
          go_enter Tryz.func155, Tryz.ntmps155
          go_wp2_with fail
          go_ret
          exact ⟨rfl, ((Below.refl _ _).alloc (Nat.le_refl _) _).alloc (by simp) _⟩
      · have e1 : (n != n') = true := by rw [bne_iff_ne]; exact h2
        have e2 : (n == n') = false := by rw [beq_eq_false_iff_ne]; exact h2
        subst h1
        have hqq := Hq0.out (by simp [eqHead, e2])
        rw [hqq]
        go_enter Tryz.func155, Tryz.ntmps155
        go_wp2_with fail
        go_ret
        exact ⟨rfl, ((Below.refl _ _).alloc (Nat.le_refl _) _).alloc (by simp) _⟩
    · have e1 : (k != k') = true := by rw [bne_iff_ne]; exact h1
      have e2 : (k == k') = false := by rw [beq_eq_false_iff_ne]; exact h1
      have hqq := Hq0.out (by simp [eqHead, e2])
      rw [hqq]
      go_enter Tryz.func155, Tryz.ntmps155
      go_wp2_with fail
      go_ret
      exact ⟨rfl, ((Below.refl _ _).alloc (Nat.le_refl _) _).alloc (by simp) _⟩
end Go.Proofs.YthlhhnnlbpecnaaGreat

/- Expressions: copies into new memory. Conditions: no argument list is longer than 2^20. -/
namespace Go.Proofs.YthlhhnnlbpecnaaGreat
set_option linter.unusedSimpArgs false
set_option linter.unusedVariables false
set_option maxRecDepth 100000
open Go.RowKit Go.WideShapes

/-- Argument lists that are not too long. -/
def slim : Nat → Ex → Prop
  | 0, _ => True
  | d + 1, e => e.args.length ≤ 1048576 ∧ ∀ x ∈ e.args, slim d x
def ToE (d : Nat) : Prop := ∀ (e : Ex) (cs : List Value) (F : List Nat) (w : World), ExR d w e cs F → slim d e →
  Calls Tryz.prog 138 #[.agg cs.toArray] w fun en w' => ∃ A cap F', en = .returned (.agg #[.int .i64 e.h.kind, .int .i64 e.h.n, .int .i64 e.h.pos, .int .i64 e.h.type, .string e.h.symbol, .string e.h.name, .slice A e.args.length cap]) ∧ ExR d w' e (e.h.cells (.slice A e.args.length cap)) F' ∧ Fresh w.heap.size w' F' ∧ Below w.heap.size w w'
theorem l_toExprS {d : Nat} (hE : ToE d) (l : List Ex) (A : Option Addr) (cap : Nat) (F : List Nat) (w : World) (hs : SlR 7 (ExR d) w l (.slice A l.length cap) F) (hl : l.length ≤ 1048576) (hsl : ∀ x ∈ l, slim d x) :
    Calls Tryz.prog 160 #[.slice A l.length cap] w fun en w' => ∃ A' cap' F', en = .returned (.slice A' l.length cap') ∧ SlR 7 (ExR d) w' l (.slice A' l.length cap') F' ∧ Fresh w.heap.size w' F' ∧ Below w.heap.size w w' := by
  have HF := hide (hs.lt (ExR.good d))
  have Hs := hide hs
  have HE := hide hE
  have Hsl := hide hsl
  clear hs hE hsl
  have hmk := fun W => run_make_rowN' (P := Tryz.prog) 84 86 (.agg #[.int .i64 0, .int .i64 0, .int .i64 0, .int .i64 0, .string ByteArray.empty, .string ByteArray.empty, .slice none 0 0]) 7 88 Tryz.underlying84 (by kernel_rfl) .i64 .i64 l.length (by omega) (by omega) W
  go_enter Tryz.func160, Tryz.ntmps160
  go_wp2_with fail
  go_loopw [4] (fun i wr => ∃ (j : Nat) (F' : List Nat), j ≤ l.length ∧ i = .int .i64 j ∧ Hid (ElR 7 (ExR d) wr w.heap.size 0 (l.take j) F') ∧ Hid (Fresh (w.heap.size + 1) wr F') ∧ Hid (∃ cs, wr.heap[w.heap.size]? = some (.cells cs 86 (0, 0)) ∧ cs.size = l.length * 7) ∧ Hid (Below w.heap.size w wr)) (fun i _ => l.length - (intOf i).toNat)
  case atStart => exact ⟨0, [], by omega, rfl, hide rfl, hide (Fresh.nil _ _), hide ⟨_, heap_alloc_new w _, by simp [madeCells]⟩, hide ((Below.refl _ _).alloc (Nat.le_refl _) _)⟩
  case round =>
    obtain ⟨j, F', hj, rfl, Hel, Hfr, Hbk, Hb⟩ := hrel
    by_cases hlt : j < l.length
    · have hx : l[j]? = some l[j] := List.getElem?_eq_getElem hlt
      generalize l[j] = x at hx
      have Hx := hide hx
      obtain ⟨b, off, A', cap', Fk, hA, hbF, hFk, _, hl', hm', hcat, hR⟩ := ex_get (Hs.out.below (ExR.good d) Hb.out HF.out) hx
      subst hA
      obtain ⟨e0, e1, e2, e3, e4, e5, e6⟩ := hcat.seven
      have hblt := Nat.lt_of_lt_of_le (HF.out b hbF) Hb.out.size
      have HR := hide hR
      have hbz := Hb.out.size
      clear hx hR hcat hFk hbF hl' hm'
      go_wp2_with fail
      refine Calls.mono (HE.out x _ Fk _ HR.out (Hsl.out x (List.mem_of_getElem? Hx.out))) ?_
      rintro en w2 ⟨A2, cap2, F2, rfl, hR2, hf2, hb2⟩
      obtain ⟨cs, hcs, hcz⟩ := Hbk.out
      have hcs2 : w2.heap[w.heap.size]? = some (.cells cs 86 (0, 0)) := blk_below hcs hb2 (blk_lt hcs)
      obtain ⟨v0, v1, v2, v3, v4, v5, v6, ⟨q0, q1, q2, q3, q4, q5, q6⟩, g0, g1, g2, g3, g4, g5, g6⟩ := cells7_of (o := j * 7) hcs2 (by omega)
      have HB2 := hide hb2
      have HR2 := hide hR2
      have Hf2 := hide hf2
      have Hcs0 := hide hcs
      clear hb2 hR2 hf2 hcs hcs2
      go_wp2_with fail
      have hst := copy_step (w := w) (ExR.good d) Hx.out Hel.out Hfr.out Hcs0.out hcz Hb.out HB2.out HR2.out Hf2.out rfl
      exact ⟨⟨j + 1, F' ++ F2, by omega, by go_num, hide hst.1, hide hst.2.1, hide hst.2.2.1, hide hst.2.2.2⟩, by simp [intOf]; omega⟩
    · have hjl : j = l.length := by omega
      subst hjl
      have Hel' : Hid (ElR 7 (ExR d) wr w.heap.size 0 l F') := by have := Hel.out; rw [List.take_length] at this; exact hide this
      go_wp2_with fail
      go_ret
      obtain ⟨cs, hcs, _⟩ := Hbk.out
      obtain ⟨G, hG, hGf⟩ := copy_done (w := w) (by unfold maxLen; omega) Hel'.out Hfr.out hcs
      exact ⟨_, _, G, rfl, hG, hGf, Hb.out⟩

set_option maxRecDepth 100000 in
theorem l_toExpr : ∀ d, ToE d
  | 0 => fun _ _ _ _ h _ => h.elim
  | d + 1 => fun e cs F w h hslim => by
    obtain ⟨A, cap, rfl, hok, hl, hm, hs⟩ := ex_form h
    have HF := hide (hs.lt (ExR.good d))
    obtain ⟨⟨k, n, p, t, s, m⟩, l⟩ := e
    simp only [Ex.args] at hs hl HF
    have hsl1 : l.length ≤ 1048576 := hslim.1
    have Hsl2 : Hid (∀ x ∈ l, slim d x) := hide hslim.2
    have HC := hide (CellsAt.new w [.int .i64 k, .int .i64 n, .int .i64 p, .int .i64 t, .string s, .string m, .slice A l.length cap] 137)
    have HS : Hid (∀ W : World, Below w.heap.size w W → Calls Tryz.prog 160 #[.slice A l.length cap] W fun en w' => ∃ A' cap' F', en = .returned (.slice A' l.length cap') ∧ SlR 7 (ExR d) w' l (.slice A' l.length cap') F' ∧ Fresh W.heap.size w' F' ∧ Below W.heap.size W w') := hide fun W hW =>
      l_toExprS (l_toExpr d) l A cap F W (hs.below (ExR.good d) hW HF.out) hsl1 Hsl2.out
    have Hok := hide hok
    show Calls _ _ #[.agg #[.int .i64 k, .int .i64 n, .int .i64 p, .int .i64 t, .string s, .string m, .slice A l.length cap]] w _
    clear hs h hok hslim
    go_enter Tryz.func138, Tryz.ntmps138
    go_wp2_with fail
    have hW : Below w.heap.size w (((w.alloc (.cells #[.int .i64 k, .int .i64 n, .int .i64 p, .int .i64 t, .string s, .string m, .slice A l.length cap] 137)).alloc (.cells #[.int .i64 0, .int .i64 0, .int .i64 0, .int .i64 0, .string ⟨#[]⟩, .string ⟨#[]⟩, .slice none 0 0] 86)).alloc (.cells #[.int .i64 k, .int .i64 n, .int .i64 p, .int .i64 t, .string s, .string m, .slice none 0 0] 86)) := (((Below.refl _ _).alloc (Nat.le_refl _) _).alloc (by simp) _).alloc (by simp; omega) _
    refine Calls.mono (HS.out _ hW) ?_
    rintro en w2 ⟨A2, cap2, F2, rfl, hs2, hf2, hb2⟩
    have hz2 := hb2.size
    simp only [World.size_alloc] at hb2 hf2 hz2
    have hB1 : w2.heap[w.heap.size + 1]? = some (.cells #[.int .i64 0, .int .i64 0, .int .i64 0, .int .i64 0, .string ⟨#[]⟩, .string ⟨#[]⟩, .slice none 0 0] 86 (0, 0)) := (hb2.block _ (by omega)).trans ((Below.heap_alloc _ _ (w.heap.size + 1) (by simp)).trans (by have := heap_alloc_new (w.alloc (.cells #[.int .i64 k, .int .i64 n, .int .i64 p, .int .i64 t, .string s, .string m, .slice A l.length cap] 137)) (.cells #[.int .i64 0, .int .i64 0, .int .i64 0, .int .i64 0, .string ⟨#[]⟩, .string ⟨#[]⟩, .slice none 0 0] 86); simpa using this))
    have hB2 : w2.heap[w.heap.size + 1 + 1]? = some (.cells #[.int .i64 k, .int .i64 n, .int .i64 p, .int .i64 t, .string s, .string m, .slice none 0 0] 86 (0, 0)) := (hb2.block _ (by omega)).trans (by have := heap_alloc_new ((w.alloc (.cells #[.int .i64 k, .int .i64 n, .int .i64 p, .int .i64 t, .string s, .string m, .slice A l.length cap] 137)).alloc (.cells #[.int .i64 0, .int .i64 0, .int .i64 0, .int .i64 0, .string ⟨#[]⟩, .string ⟨#[]⟩, .slice none 0 0] 86)) (.cells #[.int .i64 k, .int .i64 n, .int .i64 p, .int .i64 t, .string s, .string m, .slice none 0 0] 86); simpa using this)
    obtain ⟨_, _, _, _, _, _, _, ⟨q0, q1, q2, q3, q4, q5, q6⟩, g0, g1, g2, g3, g4, g5, g6⟩ := cells7_of (o := 0) hB1 (by simp)
    obtain ⟨r0, r1, r2, r3, r4, r5, r6⟩ := (show CellsAt w2 (w.heap.size + 1 + 1) 0 [.int .i64 k, .int .i64 n, .int .i64 p, .int .i64 t, .string s, .string m, .slice none 0 0] from fun j u hu => by rw [cell_of_row _ _ _ _ _ _ hB2]; simpa using hu).seven0
    have gg := frozen_of_row w2 (w.heap.size + 1 + 1) 6 _ _ hB2
    simp only [Nat.zero_add] at q0 q1 q2 q3 q4 q5 q6 g0 g1 g2 g3 g4 g5 g6
    have Hput := hide (put_spec [.int .i64 k, .int .i64 n, .int .i64 p, .int .i64 t, .string s, .string m, .slice A2 l.length cap2] 0 (w2.setCell ⟨w.heap.size + 1 + 1, 6, none⟩ (.slice A2 l.length cap2)) _ ((heap_setCell_other _ _ _ _ (by simp)).trans hB1) (by simp))
    have Hs2 := hide hs2
    have Hf2 := hide hf2
    have Hb2 := hide hb2
    have HW := hide hW
    clear hs2 hf2 hb2 hW hB1 hB2
    go_wp2_with fail
    have hP := Hput.out
    change bodyPost _ _ _ _ _ (putCells (w2.setCell ⟨w.heap.size + 1 + 1, 6, none⟩ (.slice A2 l.length cap2)) (w.heap.size + 1) 0 [.int .i64 k, .int .i64 n, .int .i64 p, .int .i64 t, .string s, .string m, .slice A2 l.length cap2])
    generalize putCells (w2.setCell ⟨w.heap.size + 1 + 1, 6, none⟩ (.slice A2 l.length cap2)) (w.heap.size + 1) 0 [.int .i64 k, .int .i64 n, .int .i64 p, .int .i64 t, .string s, .string m, .slice A2 l.length cap2] = WF at hP
    obtain ⟨x0, x1, x2, x3, x4, x5, x6⟩ := hP.cellsAt.seven0
    have hfar : ∀ b ∈ F2, WF.heap[b]? = w2.heap[b]? := fun b hb => by
      have := Hf2.out.from_ b hb
      exact (hP.far b (by omega)).trans (heap_setCell_other _ _ _ _ (by simp; omega))
    have hB : Below w.heap.size w w2 := HW.out.trans (Hb2.out.mono (by omega))
    have hB3 : Below w.heap.size w WF := (hB.setCell (p := ⟨w.heap.size + 1 + 1, 6, none⟩) (by simp; omega) _).trans (hP.below (by omega))
    exact bodyPost_ret (v := .agg #[.int .i64 k, .int .i64 n, .int .i64 p, .int .i64 t, .string s, .string m, .slice A2 l.length cap2]) (by simp [results, Tryz.results138, go_sem, x0, x1, x2, x3, x4, x5, x6]) rfl ⟨A2, cap2, F2, rfl, ⟨_, rfl, Hok.out, Hs2.out.frame (ExR.good d) hfar (by rw [hP.size]; simp [World.setCell])⟩, (Hf2.out.keep hfar).mono (by omega), hB3⟩

theorem slim_of_bulk : ∀ {d : Nat} {e : Ex}, bulkE d e ≤ 1048576 → slim d e
  | 0, _, _ => trivial
  | d + 1, e, h => by
    have hs := sumBy_nonneg (bulkE_nonneg d) e.args
    simp only [bulkE] at h
    refine ⟨by omega, fun x hx => slim_of_bulk ?_⟩
    have := sumBy_mem (bulkE_nonneg d) hx
    omega

theorem below_drew_of {α : Type} {n : Nat} {R : CR α} (hR : Good n R) {w w1 w' : World} {x : α} {cs : List Value} {F : List Nat} {B : Nat} (h : R w x cs F) (hb : Below B w1 w') (hF : ∀ k ∈ F, k < B) (he : w1.heap = w.heap) : R w' x cs F :=
  hR.below (hR.heap h he) hb hF
end Go.Proofs.YthlhhnnlbpecnaaGreat

/- Expressions, told as the other structs are: copies and comparisons. Conditions: a copy is asked of what has at most the size 2^20. -/
namespace Go.Proofs.YthlhhnnlbpecnaaGreat
set_option linter.unusedSimpArgs false
set_option linter.unusedVariables false
set_option maxRecDepth 100000
open Go.RowKit Go.WideShapes

theorem ExR.one {D : Nat} {w : World} {e : Ex} {cs : List Value} {F : List Nat} (h : ExR D w e cs F) : ∀ v ∈ cs, v.oneCell' = true := by
  match D, h with
  | d + 1, h =>
    obtain ⟨A, cap, rfl, _⟩ := ex_form h
    intro v hv
    simp only [ExH.cells, List.mem_cons, List.not_mem_nil, or_false] at hv
    rcases hv with rfl | rfl | rfl | rfl | rfl | rfl | rfl <;> rfl
theorem c_Ex (D : Nat) (x : Ex) (cs : List Value) (F : List Nat) (w : World) (h : ExR D w x cs F) (hbk : bulkE D x ≤ 1048576) :
    Calls Tryz.prog 138 #[.agg cs.toArray] w fun en w' => ∃ us F', en = .returned (.agg (List.toArray us)) ∧ ExR D w' x us F' ∧ Fresh w.heap.size w' F' ∧ Below w.heap.size w w' :=
  (l_toExpr D x cs F w h (slim_of_bulk hbk)).mono fun _ _ ⟨_, _, F', h1, h2, h3, h4⟩ => ⟨_, F', h1, h2, h3, h4⟩
theorem ee_Ex (D : Nat) (x : Ex) (cs cs' : List Value) (F F' : List Nat) (w : World) (h : ExR D w x cs F) (h' : ExR D w x cs' F') :
    Calls Tryz.prog 155 #[.agg cs.toArray, .agg cs'.toArray] w fun en w' => en = .returned (.bool true) ∧ Below w.heap.size w w' := by
  have := l_eqExpr D x x cs cs' F F' w h h'
  rwa [eqE_refl D x] at this
end Go.Proofs.YthlhhnnlbpecnaaGreat
