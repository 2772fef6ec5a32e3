/- Expressions: sizes, copies into new memory, comparisons. Conditions: a size is asked with at most 2^20; a copy is asked of at most 2^20 arguments a node. -/
import Derived.Test.YtaihdnlpdibkoaaExpr
import Derived.Deep.OwnRows
import Derived.Deep.QuietTactic
import Derived.BigQuiet
import Derived.Deep.RegionHeld3
import Derived.Laws.MakeOwn
namespace Go.Proofs.Ytaihdnlpdibkoaa
set_option maxRecDepth 100000
open Go.RowKit Go.WideShapes

/-- Lengths of texts and of argument lists, together. -/
def bulkE : Nat → Ex → Int
  | 0, _ => 0
  | d + 1, e => e.h.symbol.size + e.h.name.size + (e.args.length + sumBy (bulkE d) e.args)
theorem bulkE_nonneg : ∀ d e, 0 ≤ bulkE d e
  | 0, _ => Int.le_refl _
  | d + 1, e => by have := sumBy_nonneg (bulkE_nonneg d) e.args; simp only [bulkE]; omega
/-- A node more than its arguments' lists hold. -/
theorem cnt_le_bulk : ∀ d e, cntE d e ≤ 1 + bulkE d e
  | 0, _ => by simp [cntE, bulkE]
  | d + 1, e => by
    have h : ∀ l : List Ex, sumBy (cntE d) l ≤ l.length + sumBy (bulkE d) l := by
      intro l
      induction l with
      | nil => simp [sumBy]
      | cons x r ih => have := cnt_le_bulk d x; simp only [sumBy, List.length_cons]; omega
    have := h e.args
    simp only [cntE, bulkE]
    omega

def SzE (d : Nat) : Prop := ∀ (e : Ex) (cs : List Value) (F : List Nat) (w : World) (L : Int), ExR d w e cs F → 0 ≤ L → L ≤ 1048576 →
  Calls Try.prog 15 #[.agg cs.toArray, .int .i64 L] w fun en w' => Sized (bulkE d e) L en ∧ Below w.heap.size w w'
set_option maxRecDepth 100000 in
theorem l_szExprS {d : Nat} (hE : SzE d) (l : List Ex) (A : Option Addr) (cap : Nat) (F : List Nat) (w : World) (L : Int) (hs : SlR 7 (ExR d) w l (.slice A l.length cap) F) (h0 : 0 ≤ L) (h1 : L ≤ 1048576) :
    Calls Try.prog 55 #[.slice A l.length cap, .int .i64 L] w fun en w' => Sized (l.length + sumBy (bulkE d) l) L en ∧ Below w.heap.size w w' := by
  have HF := hide (hs.lt (ExR.good d))
  obtain ⟨_, hlc, hm⟩ := hs.bnd
  unfold maxLen at hm
  have Hs := hide hs
  have HE := hide hE
  have Hnn := hide (bulkE_nonneg d)
  clear hs hE
  by_cases hn : L < l.length
  · go_enter Try.func55, Try.ntmps55
    go_wp2_with fail
    go_ret
    exact ⟨⟨-1, rfl, .inl rfl⟩, Below.refl _ _⟩
  go_enter Try.func55, Try.ntmps55
  go_wp2_with fail
  go_loopw [1, 5] (fun c i wr => ∃ j : Nat, j ≤ l.length ∧ i = .int .i64 j ∧ c = .int .i64 (L - l.length - sumBy (bulkE d) (l.take j)) ∧ 0 ≤ L - l.length - sumBy (bulkE d) (l.take j) ∧ Hid (Below w.heap.size w wr)) (fun _ i _ => l.length - (intOf i).toNat)
  case atStart => exact ⟨0, by omega, rfl, by simp [sumBy], by simp [sumBy]; omega, hide (Below.refl _ _)⟩
  case round =>
    obtain ⟨j, hj, rfl, rfl, hge, Hb⟩ := hrel
    have hpos := sumBy_nonneg Hnn.out (l.take j)
    by_cases hlt : j < l.length
    · have hx : l[j]? = some l[j] := List.getElem?_eq_getElem hlt
      generalize l[j] = x at hx
      have Hsum := hide (sumBy_take_succ (f := bulkE d) hx)
      have hcx := Hnn.out x
      obtain ⟨b, off, A', cap', Fk, hA, hbF, hFk, _, hl', hm', hcat, hR⟩ := ex_get (Hs.out.below (ExR.good d) Hb.out HF.out) hx
      subst hA
      obtain ⟨e0, e1, e2, e3, e4, e5, e6⟩ := hcat.seven
      have hblt := Nat.lt_of_lt_of_le (HF.out b hbF) Hb.out.size
      have HR := hide hR
      clear hx hR hcat hFk hbF hl' hm'
      go_wp2_with fail
      refine Calls.mono (HE.out x _ Fk _ (L - l.length - sumBy (bulkE d) (l.take j)) HR.out (by omega) (by omega)) ?_
      rintro en w2 ⟨⟨r, rfl, hr⟩, hb2⟩
      have HB2 : Hid (Below w.heap.size w w2) := hide (Hb.out.trans (hb2.mono Hb.out.size))
      clear hb2
      rcases hr with rfl | ⟨hr0, hr1⟩
      · go_wp2_with fail
        go_ret
        exact ⟨⟨-1, rfl, .inl rfl⟩, HB2.out⟩
      · have Hr1 := hide hr1
        clear hr1
        go_wp2_with fail
        go_roundw
        case rel => exact ⟨j + 1, by omega, by go_num, by rw [Hsum.out, Hr1.out]; go_num, by rw [Hsum.out]; have := Hr1.out; omega, HB2⟩
        case measure => simp [intOf]; omega
    · have hjl : j = l.length := by omega
      rw [hjl, List.take_length] at hge
      rw [hjl, List.take_length]
      go_wp2_with fail
      go_ret
      exact ⟨⟨_, rfl, .inr ⟨hge, by omega⟩⟩, Hb.out⟩
set_option maxRecDepth 100000 in
theorem l_szExpr : ∀ d, SzE d
  | 0 => fun _ _ _ _ _ h _ _ => h.elim
  | d + 1 => fun e cs F w L h h0 h1 => by
    obtain ⟨A, cap, rfl, hok, hl, hm, hs⟩ := ex_form h
    have HF := hide (hs.lt (ExR.good d))
    obtain ⟨⟨k, n, p, t, s, m⟩, l⟩ := e
    unfold maxLen at hm
    simp only [Ex.args] at hs hl hm HF
    have hss := hok.symbol
    have hsm := hok.name
    simp only [Ex.h] at hss hsm
    unfold maxLen at hss hsm
    generalize hbx : Obj.cells #[.int .i64 k, .int .i64 n, .int .i64 p, .int .i64 t, .string s, .string m, .slice A l.length cap] 46 = bx
    have HC := hide (CellsAt.new w [.int .i64 k, .int .i64 n, .int .i64 p, .int .i64 t, .string s, .string m, .slice A l.length cap] 46)
    rw [hbx] at HC
    obtain ⟨_, _, _, _, _, _, c6⟩ := HC.out.seven0
    have Hs := hide hs
    have hnn := sumBy_nonneg (bulkE_nonneg d) l
    have Hbk : Hid (bulkE (d + 1) (.mk ⟨k, n, p, t, s, m⟩ l) = s.size + m.size + (l.length + sumBy (bulkE d) l)) := hide rfl
    generalize bulkE (d + 1) (.mk ⟨k, n, p, t, s, m⟩ l) = bk at Hbk
    have HS : Hid (∀ (L : Int), 0 ≤ L → L ≤ 1048576 → Calls Try.prog 55 #[.slice A l.length cap, .int .i64 L] (w.alloc bx) fun en w' => Sized (l.length + sumBy (bulkE d) l) L en ∧ Below (w.heap.size + 1) (w.alloc bx) w') := hide fun L h0 h1 => by
      have := l_szExprS (l_szExpr d) l A cap F (w.alloc bx) L (Hs.out.below (ExR.good d) ((Below.refl w.heap.size w).alloc (Nat.le_refl _) bx) HF.out) h0 h1
      rw [World.size_alloc] at this
      exact this
    show Calls _ _ #[.agg #[.int .i64 k, .int .i64 n, .int .i64 p, .int .i64 t, .string s, .string m, .slice A l.length cap], .int .i64 L] w _
    obtain ⟨c0, c1, c2, c3, c4, c5, c6'⟩ := HC.out.seven0
    clear hs hok h c6'
    by_cases hq1 : L < s.size
    · go_enter Try.func15, Try.ntmps15
      go_wp2_with fail
      go_ret
      exact ⟨⟨-1, rfl, .inl rfl⟩, by rw [← hbx]; exact (Below.refl _ _).alloc (Nat.le_refl _) _⟩
    by_cases hq2 : L - s.size < m.size
    · go_enter Try.func15, Try.ntmps15
      go_wp2_with fail
      go_ret
      exact ⟨⟨-1, rfl, .inl rfl⟩, by rw [← hbx]; exact (Below.refl _ _).alloc (Nat.le_refl _) _⟩
    go_enter Try.func15, Try.ntmps15
    go_wp2_with fail
    refine Calls.mono (HS.out (L - s.size - m.size) (by omega) (by omega)) ?_
    rintro en w2 ⟨⟨r, rfl, hr⟩, hb2⟩
    have HB2 := hide hb2
    clear hb2
    rcases hr with rfl | ⟨hr0, hr1⟩
    · go_wp2_with fail
      go_ret
      exact ⟨⟨-1, rfl, .inl rfl⟩, box_below HB2.out⟩
    · have Hr1 := hide hr1
      clear hr1
      go_wp2_with fail
      go_ret
      exact ⟨⟨_, rfl, .inr ⟨hr0, by rw [Hr1.out, Hbk.out]; omega⟩⟩, box_below HB2.out⟩

/-! ### Comparing -/
def eqHead (a b : ExH) : Bool := (a.kind == b.kind) && ((a.n == b.n) && ((a.pos == b.pos) && ((a.type == b.type) && ((a.symbol.toList == b.symbol.toList) && (a.name.toList == b.name.toList)))))
def eqL {α : Type} (f : α → α → Bool) : List α → List α → Bool
  | [], [] => true
  | x :: r, y :: r' => f x y && eqL f r r'
  | _, _ => false
theorem eqL_len {α : Type} {f : α → α → Bool} : ∀ {xs ys : List α}, xs.length ≠ ys.length → eqL f xs ys = false
  | [], [], h => absurd rfl h
  | [], _ :: _, _ => rfl
  | _ :: _, [], _ => rfl
  | _ :: _, _ :: _, h => by simp only [eqL]; rw [eqL_len (fun e => h (by simp [e]))]; simp
theorem eqL_bad {α : Type} {f : α → α → Bool} : ∀ {xs ys : List α} {k : Nat} {x y : α}, xs[k]? = some x → ys[k]? = some y → f x y = false → eqL f xs ys = false
  | [], _, _, _, _, h, _, _ => by cases h
  | _ :: _, [], _, _, _, _, h, _ => by cases h
  | a :: r, b :: r', 0, x, y, hx, hy, h => by
    simp at hx hy
    subst hx hy
    simp [eqL, h]
  | a :: r, b :: r', k + 1, x, y, hx, hy, h => by
    simp only [eqL]
    rw [eqL_bad (xs := r) (ys := r') (k := k) (by simpa using hx) (by simpa using hy) h]
    simp
theorem eqL_all {α : Type} {f : α → α → Bool} : ∀ {xs ys : List α}, xs.length = ys.length → (∀ (k : Nat) (x y : α), xs[k]? = some x → ys[k]? = some y → f x y = true) → eqL f xs ys = true
  | [], [], _, _ => rfl
  | [], _ :: _, h, _ => by cases h
  | _ :: _, [], h, _ => by cases h
  | a :: r, b :: r', h, hk => by
    simp only [eqL]
    rw [hk 0 a b rfl rfl, eqL_all (by simpa using h) (fun k x y hx hy => hk (k + 1) x y (by simpa using hx) (by simpa using hy))]
    rfl
def eqE : Nat → Ex → Ex → Bool
  | 0, _, _ => true
  | d + 1, a, b => eqHead a.h b.h && eqL (eqE d) a.args b.args
theorem eqE_refl : ∀ d e, eqE d e e = true
  | 0, _ => rfl
  | d + 1, e => by
    simp only [eqE]
    rw [eqL_all rfl (fun k x y hx hy => by rw [hx] at hy; injection hy with hy; rw [hy]; exact eqE_refl d y)]
    simp [eqHead]

def EqE (d : Nat) : Prop := ∀ (a b : Ex) (ca cb : List Value) (Fa Fb : List Nat) (w : World), ExR d w a ca Fa → ExR d w b cb Fb →
  Calls Try.prog 20 #[.agg ca.toArray, .agg cb.toArray] w fun en w' => en = .returned (.bool (eqE d a b)) ∧ Below w.heap.size w w'
theorem l_eqExprS {d : Nat} (hE : EqE d) (l l' : List Ex) (A A' : Option Addr) (cap cap' : Nat) (F F' : List Nat) (w : World) (hs : SlR 7 (ExR d) w l (.slice A l.length cap) F) (hs' : SlR 7 (ExR d) w l' (.slice A' l'.length cap') F') :
    Calls Try.prog 64 #[.slice A l.length cap, .slice A' l'.length cap'] w fun en w' => en = .returned (.bool (eqL (eqE d) l l')) ∧ Below w.heap.size w w' := by
  have HF := hide (hs.lt (ExR.good d))
  have HF' := hide (hs'.lt (ExR.good d))
  obtain ⟨_, hlc, hm⟩ := hs.bnd
  obtain ⟨_, hlc', hm'⟩ := hs'.bnd
  unfold maxLen at hm hm'
  have Hs := hide hs
  have Hs' := hide hs'
  have HE := hide hE
  clear hs hs' hE
  by_cases hll : l.length = l'.length
  · have Hll := hide hll
    generalize hq : l'.length = q at *
    have Hq := hide hq
    clear hq
    subst hll
    go_enter Try.func64, Try.ntmps64
    go_wp2_with fail
    go_loopw [5] (fun i wr => ∃ j : Nat, j ≤ l.length ∧ i = .int .i64 j ∧ Hid (∀ k x y, k < j → l[k]? = some x → l'[k]? = some y → eqE d x y = true) ∧ Hid (Below w.heap.size w wr)) (fun i _ => l.length - (intOf i).toNat)
    case atStart => exact ⟨0, by omega, rfl, hide (fun k x y h => absurd h (by omega)), hide (Below.refl _ _)⟩
    case round =>
      obtain ⟨j, hj, rfl, Hall, Hb⟩ := hrel
      by_cases hlt : j < l.length
      · have hx : l[j]? = some l[j] := List.getElem?_eq_getElem hlt
        have hlt' : j < l'.length := by rw [Hq.out]; exact hlt
        have hy : l'[j]? = some l'[j] := List.getElem?_eq_getElem hlt'
        generalize l[j] = x at hx
        generalize l'[j] = y at hy
        clear hlt'
        have Hx := hide hx
        have Hy := hide hy
        obtain ⟨b, off, A1, cap1, Fk, hA, hbF, hFk, _, hl1, hm1, hcat, hR⟩ := ex_get (Hs.out.below (ExR.good d) Hb.out HF.out) hx
        subst hA
        obtain ⟨b', off', A2, cap2, Fk', hA, hbF', hFk', _, hl2, hm2, hcat', hR'⟩ := ex_get (Hs'.out.below (ExR.good d) Hb.out HF'.out) hy
        subst hA
        obtain ⟨e0, e1, e2, e3, e4, e5, e6⟩ := hcat.seven
        obtain ⟨g0, g1, g2, g3, g4, g5, g6⟩ := hcat'.seven
        have hblt := Nat.lt_of_lt_of_le (HF.out b hbF) Hb.out.size
        have hblt' := Nat.lt_of_lt_of_le (HF'.out b' hbF') Hb.out.size
        have HR := hide hR
        have HR' := hide hR'
        clear hx hy hR hR' hcat hcat' hFk hFk' hbF hbF' hl1 hm1 hl2 hm2
        cases hxy : eqE d x y
        · have Hbad := hide (eqL_bad (f := eqE d) Hx.out Hy.out hxy)
          go_wp2_with fail
          go_region_held3 (fun w' => w'.cell? ⟨b, off + j * 7, none⟩ = some (.int .i64 x.h.kind) ∧ w'.cell? ⟨b, off + j * 7 + 1, none⟩ = some (.int .i64 x.h.n) ∧ w'.cell? ⟨b, off + j * 7 + 2, none⟩ = some (.int .i64 x.h.pos) ∧ w'.cell? ⟨b, off + j * 7 + 3, none⟩ = some (.int .i64 x.h.type) ∧ w'.cell? ⟨b, off + j * 7 + 4, none⟩ = some (.string x.h.symbol) ∧ w'.cell? ⟨b, off + j * 7 + 5, none⟩ = some (.string x.h.name) ∧ w'.cell? ⟨b, off + j * 7 + 6, none⟩ = some (.slice A1 x.args.length cap1) ∧ w'.cell? ⟨b', off' + j * 7, none⟩ = some (.int .i64 y.h.kind) ∧ w'.cell? ⟨b', off' + j * 7 + 1, none⟩ = some (.int .i64 y.h.n) ∧ w'.cell? ⟨b', off' + j * 7 + 2, none⟩ = some (.int .i64 y.h.pos) ∧ w'.cell? ⟨b', off' + j * 7 + 3, none⟩ = some (.int .i64 y.h.type) ∧ w'.cell? ⟨b', off' + j * 7 + 4, none⟩ = some (.string y.h.symbol) ∧ w'.cell? ⟨b', off' + j * 7 + 5, none⟩ = some (.string y.h.name) ∧ w'.cell? ⟨b', off' + j * 7 + 6, none⟩ = some (.slice A2 y.args.length cap2))
            (first | go_keep | ((repeat' apply And.intro) <;> first | exact (hb2.cell (p := ⟨b, _, none⟩) hblt).trans (by assumption) | exact (hb2.cell (p := ⟨b', _, none⟩) hblt').trans (by assumption)))
            ((go_at_call 20; refine Calls.mono (HE.out x y _ _ Fk Fk' _ ((ExR.good d).heap HR.out rfl) ((ExR.good d).heap HR'.out rfl)) ?_; rintro en w2 ⟨rfl, hb2⟩))
          go_wp2_with fail
          go_ret
          exact ⟨ret_bool Hbad.out.symm, Hb.out.drew.trans (hb2.mono Hb.out.size)⟩
        · have Hxy := hide hxy
          go_wp2_with fail
          go_region_held3 (fun w' => w'.cell? ⟨b, off + j * 7, none⟩ = some (.int .i64 x.h.kind) ∧ w'.cell? ⟨b, off + j * 7 + 1, none⟩ = some (.int .i64 x.h.n) ∧ w'.cell? ⟨b, off + j * 7 + 2, none⟩ = some (.int .i64 x.h.pos) ∧ w'.cell? ⟨b, off + j * 7 + 3, none⟩ = some (.int .i64 x.h.type) ∧ w'.cell? ⟨b, off + j * 7 + 4, none⟩ = some (.string x.h.symbol) ∧ w'.cell? ⟨b, off + j * 7 + 5, none⟩ = some (.string x.h.name) ∧ w'.cell? ⟨b, off + j * 7 + 6, none⟩ = some (.slice A1 x.args.length cap1) ∧ w'.cell? ⟨b', off' + j * 7, none⟩ = some (.int .i64 y.h.kind) ∧ w'.cell? ⟨b', off' + j * 7 + 1, none⟩ = some (.int .i64 y.h.n) ∧ w'.cell? ⟨b', off' + j * 7 + 2, none⟩ = some (.int .i64 y.h.pos) ∧ w'.cell? ⟨b', off' + j * 7 + 3, none⟩ = some (.int .i64 y.h.type) ∧ w'.cell? ⟨b', off' + j * 7 + 4, none⟩ = some (.string y.h.symbol) ∧ w'.cell? ⟨b', off' + j * 7 + 5, none⟩ = some (.string y.h.name) ∧ w'.cell? ⟨b', off' + j * 7 + 6, none⟩ = some (.slice A2 y.args.length cap2))
            (first | go_keep | ((repeat' apply And.intro) <;> first | exact (hb2.cell (p := ⟨b, _, none⟩) hblt).trans (by assumption) | exact (hb2.cell (p := ⟨b', _, none⟩) hblt').trans (by assumption)))
            ((go_at_call 20; refine Calls.mono (HE.out x y _ _ Fk Fk' _ ((ExR.good d).heap HR.out rfl) ((ExR.good d).heap HR'.out rfl)) ?_; rintro en w2 ⟨rfl, hb2⟩))
          have HB2 : Hid (Below w.heap.size w w2) := hide (Hb.out.drew.trans (hb2.mono Hb.out.size))
          clear hb2
          go_wp2_with fail
          go_roundw
          case rel =>
            refine ⟨j + 1, by omega, by go_num, hide (fun k x' y' hk hx' hy' => ?_), HB2⟩
            by_cases hkj : k < j
            · exact Hall.out k x' y' hkj hx' hy'
            · have hkj' : k = j := by omega
              subst hkj'
              rw [Hx.out] at hx'
              rw [Hy.out] at hy'
              injection hx' with hx'
              injection hy' with hy'
              rw [← hx', ← hy']
              exact Hxy.out
          case measure => simp [intOf]; omega
      · have Hyes : Hid (eqL (eqE d) l l' = true) := hide (eqL_all Hq.out.symm (fun k x y hx hy => Hall.out k x y (by have := (List.getElem?_eq_some_iff.1 hx).1; omega) hx hy))
        go_wp2_with fail
        go_ret
        exact ⟨ret_bool Hyes.out.symm, Hb.out⟩
  · have hne : ((l.length : Int) != (l'.length : Int)) = true := by rw [bne_iff_ne]; omega
    have Hno := hide (eqL_len (f := eqE d) hll)
    clear hll
    go_enter Try.func64, Try.ntmps64
    go_wp2_with fail
    go_ret
    exact ⟨ret_bool Hno.out.symm, Below.refl _ _⟩

theorem eqE_head {d : Nat} {a b : Ex} (h : eqHead a.h b.h = false) : eqE (d + 1) a b = false := by simp only [eqE]; rw [h]; rfl
theorem eqE_args {d : Nat} {a b : Ex} (h : eqHead a.h b.h = true) : eqE (d + 1) a b = eqL (eqE d) a.args b.args := by simp only [eqE]; rw [h]; rfl
set_option maxRecDepth 100000 in
set_option maxHeartbeats 1000000 in
theorem l_eqExpr : ∀ d, EqE d
  | 0 => fun _ _ _ _ _ _ _ h _ => h.elim
  | d + 1 => fun a b ca cb Fa Fb w h h' => by
    obtain ⟨A, cap, rfl, _, hl, hm, hs⟩ := ex_form h
    obtain ⟨A', cap', rfl, _, hl', hm', hs'⟩ := ex_form h'
    have HF := hide (hs.lt (ExR.good d))
    have HF' := hide (hs'.lt (ExR.good d))
    generalize hqa : eqE (d + 1) a b = q
    have Hq := hide hqa
    clear hqa h h'
    obtain ⟨⟨k, n, p, t, s, m⟩, l⟩ := a
    obtain ⟨⟨k', n', p', t', s', m'⟩, l'⟩ := b
    simp only [Ex.args] at hs hs' hl hl' HF HF'
    show Calls _ _ #[.agg #[.int .i64 k, .int .i64 n, .int .i64 p, .int .i64 t, .string s, .string m, .slice A l.length cap], .agg #[.int .i64 k', .int .i64 n', .int .i64 p', .int .i64 t', .string s', .string m', .slice A' l'.length cap']] w _
    have Hq0 : Hid (eqHead ⟨k, n, p, t, s, m⟩ ⟨k', n', p', t', s', m'⟩ = false → q = false) := hide (fun hh => by rw [← Hq.out]; exact eqE_head hh)
    have Hq1 : Hid (eqHead ⟨k, n, p, t, s, m⟩ ⟨k', n', p', t', s', m'⟩ = true → q = eqL (eqE d) l l') := hide (fun hh => by rw [← Hq.out]; exact eqE_args hh)
    clear Hq
    have HS : Hid (∀ W : World, Below w.heap.size w W → Calls Try.prog 64 #[.slice A l.length cap, .slice A' l'.length cap'] W fun en w' => en = .returned (.bool (eqL (eqE d) l l')) ∧ Below W.heap.size W w') := hide fun W hW =>
      l_eqExprS (l_eqExpr d) l l' A A' cap cap' Fa Fb W (hs.below (ExR.good d) hW HF.out) (hs'.below (ExR.good d) hW HF'.out)
    clear hs hs' HF HF' hm hm'
    by_cases h1 : k = k'
    · by_cases h2 : n = n'
      · by_cases h3 : p = p'
        · by_cases h4 : t = t'
          · by_cases h5 : s = s'
            · by_cases h6 : m = m'
              · subst h1 h2 h3 h4 h5 h6
                have hqq := Hq1.out (by simp [eqHead])
                rw [hqq]
                cases hr : eqL (eqE d) l l'
                all_goals
                  rw [hr] at HS
                  go_enter Try.func20, Try.ntmps20
                  go_wp2_with fail
                  refine Calls.mono (HS.out _ (((Below.refl _ _).alloc (Nat.le_refl _) _).alloc (by simp) _)) ?_
                  rintro en w2 ⟨rfl, hb2⟩
                  have hB2 : Below w.heap.size w w2 := (((Below.refl _ _).alloc (Nat.le_refl _) _).alloc (by simp) _).trans (hb2.mono (by simp; omega))
                  go_wp2_with fail
                  go_ret
                  exact ⟨rfl, hB2⟩
              · have e1 : (m.toList != m'.toList) = true := by rw [bne_iff_ne]; intro e; exact h6 (by simpa [bytes_beq] using beq_iff_eq.2 e)
                have e2 : (m.toList == m'.toList) = false := by rw [bytes_beq]; simpa using h6
                subst h1 h2 h3 h4 h5
                have hqq := Hq0.out (by simp [eqHead, e2])
                rw [hqq]
                go_enter Try.func20, Try.ntmps20
                go_wp2_with fail
                go_ret
                exact ⟨rfl, ((Below.refl _ _).alloc (Nat.le_refl _) _).alloc (by simp) _⟩
            · have e1 : (s.toList != s'.toList) = true := by rw [bne_iff_ne]; intro e; exact h5 (by simpa [bytes_beq] using beq_iff_eq.2 e)
              have e2 : (s.toList == s'.toList) = false := by rw [bytes_beq]; simpa using h5
              subst h1 h2 h3 h4
              have hqq := Hq0.out (by simp [eqHead, e2])
              rw [hqq]
              go_enter Try.func20, Try.ntmps20
              go_wp2_with fail
              go_ret
              exact ⟨rfl, ((Below.refl _ _).alloc (Nat.le_refl _) _).alloc (by simp) _⟩
          · have e1 : (t != t') = true := by rw [bne_iff_ne]; exact h4
            have e2 : (t == t') = false := by rw [beq_eq_false_iff_ne]; exact h4
            subst h1 h2 h3
            have hqq := Hq0.out (by simp [eqHead, e2])
            rw [hqq]
            go_enter Try.func20, Try.ntmps20
            go_wp2_with fail
            go_ret
            exact ⟨rfl, ((Below.refl _ _).alloc (Nat.le_refl _) _).alloc (by simp) _⟩
        · have e1 : (p != p') = true := by rw [bne_iff_ne]; exact h3
          have e2 : (p == p') = false := by rw [beq_eq_false_iff_ne]; exact h3
          subst h1 h2
          have hqq := Hq0.out (by simp [eqHead, e2])
          rw [hqq]
          go_enter Try.func20, Try.ntmps20
          go_wp2_with fail
          go_ret
          exact ⟨rfl, ((Below.refl _ _).alloc (Nat.le_refl _) _).alloc (by simp) _⟩
      · have e1 : (n != n') = true := by rw [bne_iff_ne]; exact h2
        have e2 : (n == n') = false := by rw [beq_eq_false_iff_ne]; exact h2
        subst h1
        have hqq := Hq0.out (by simp [eqHead, e2])
        rw [hqq]
        go_enter Try.func20, Try.ntmps20
        go_wp2_with fail
        go_ret
        exact ⟨rfl, ((Below.refl _ _).alloc (Nat.le_refl _) _).alloc (by simp) _⟩
    · have e1 : (k != k') = true := by rw [bne_iff_ne]; exact h1
      have e2 : (k == k') = false := by rw [beq_eq_false_iff_ne]; exact h1
      have hqq := Hq0.out (by simp [eqHead, e2])
      rw [hqq]
      go_enter Try.func20, Try.ntmps20
      go_wp2_with fail
      go_ret
      exact ⟨rfl, ((Below.refl _ _).alloc (Nat.le_refl _) _).alloc (by simp) _⟩
end Go.Proofs.Ytaihdnlpdibkoaa
