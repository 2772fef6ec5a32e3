/- Several texts of one proof in one file: Slices of texts, told as slices of things: sizes, copies, comparisons. Expressions: how one lies in memory; the functions that only read one. Conditions: each theorem names its own. -/
import Derived.Test.YthlhhnnlbpecnaaGreatGcsab
import Derived.Test.YthlhhnnlbpecnaaGreatRows
import Derived.WalkLawsBesides
import Derived.WalkSpells

/- Slices of texts, told as slices of things: sizes, copies, comparisons. Conditions: a size is asked with at most 2^20; a copy is asked of at most 2^20 texts. -/
namespace Go.Proofs.YthlhhnnlbpecnaaGreat
set_option linter.unusedSimpArgs false
set_option linter.unusedVariables false
set_option maxRecDepth 100000
open Go.RowKit Go.WideShapes
set_option linter.unusedVariables false

def StrR (_D : Nat) : CR ByteArray := fun _ x cs F => cs = [.string x] ∧ x.size ≤ maxLen ∧ F = []
theorem StrR.good (D : Nat) : Good 1 (StrR D) where
  len := fun {w x cs F} h => by
    obtain ⟨rfl, _, _⟩ := h
    rfl
  frame := fun {w w' x cs F} h he hz => h
  lt := fun {w x cs F} h b hb => by
    obtain ⟨_, _, rfl⟩ := h
    cases hb
theorem StrR.up {D : Nat} {w : World} {x : ByteArray} {cs : List Value} {F : List Nat} (h : StrR D w x cs F) (D' : Nat) (hd : D ≤ D') : StrR D' w x cs F := h
theorem StrR.one {D : Nat} {w : World} {x : ByteArray} {cs : List Value} {F : List Nat} (h : StrR D w x cs F) : ∀ v ∈ cs, v.oneCell' = true := by
  obtain ⟨rfl, _, _⟩ := h
  intro v hv
  obtain rfl := List.mem_singleton.1 hv
  rfl
theorem cells_Str {H : Type} {enc : TypeId × Value → H} {w : World} {base : Nat} {sp : Nat → Bool} {held : Bool} (fuel : Nat) {cs : List Value} {x : DataW H × List MemPlace}
    (h : DataW.trod enc Tryz.prog w base sp held fuel 9 cs = some x) : ∃ y F, StrR fuel w y cs F := by
  obtain ⟨z, hz, _, hw⟩ := DataW.trod_string Tryz.underlying9 h
  exact ⟨z, [], hz, hw, rfl⟩
theorem open_StrL {H : Type} {enc : TypeId × Value → H} {w : World} {C base : Nat} {sp : Nat → Bool} {held : Bool} {v : Value} {d : DataW H} {p : List MemPlace} (hv : Value.okWide Tryz.prog w .any C 46 v)
    (h : DataW.Trod enc Tryz.prog w base sp held 46 v d p) : ∃ (D : Nat) (xs : List ByteArray) (F : List Nat), SlR 1 (StrR D) w xs v F := by
  obtain ⟨a0, len, cap, rfl⟩ := okWide_slice Tryz.underlying46 hv
  obtain ⟨fuel, hf⟩ := h
  obtain ⟨xs, v, F, hcs, hs⟩ := open_SlR (n := 1) Tryz.underlying46 (by kernel_rfl) (by omega) (StrR fuel) hf (fun m cs y hm hy => cells_Str m hy)
  simp [Value.cells] at hcs
  subst hcs
  exact ⟨fuel, xs, F, hs⟩
theorem ElR.strs {D : Nat} {w : World} {b : Nat} : ∀ {xs : List ByteArray} {off : Nat} {F : List Nat}, ElR 1 (StrR D) w b off xs F → F = [] ∧ (∀ x ∈ xs, x.size ≤ maxLen) ∧ ∀ j u, (xs.map Value.string)[j]? = some u → w.cell? ⟨b, off + j, none⟩ = some u
  | [], _, _, h => ⟨h, by simp, fun j u hu => by simp at hu⟩
  | x :: r, off, F, h => by
    obtain ⟨cs, F1, F2, rfl, h1, ⟨rfl, hx, rfl⟩, h3⟩ := h
    obtain ⟨rfl, g1, g2⟩ := ElR.strs h3
    refine ⟨rfl, fun y hy => ?_, fun j u hu => ?_⟩
    · rcases List.mem_cons.1 hy with rfl | hy
      · exact hx
      · exact g1 y hy
    · cases j with
      | zero => simp at hu; subst hu; exact h1 0 _ rfl
      | succ j => rw [show off + (j + 1) = off + 1 + j by omega]; exact g2 j u (by simpa using hu)
theorem ElR.of_strs {D : Nat} {w : World} {b : Nat} : ∀ {xs : List ByteArray} {off : Nat}, (∀ x ∈ xs, x.size ≤ maxLen) → (∀ j u, (xs.map Value.string)[j]? = some u → w.cell? ⟨b, off + j, none⟩ = some u) → ElR 1 (StrR D) w b off xs []
  | [], _, _, _ => rfl
  | x :: r, off, hs, hc => ⟨[.string x], [], [], rfl, fun j u hu => by
      cases j with
      | zero => simp at hu; subst hu; exact hc 0 _ rfl
      | succ j => simp at hu, ⟨rfl, hs x (by simp), rfl⟩, ElR.of_strs (fun y hy => hs y (by simp [hy])) fun j u hu => by
      rw [show off + 1 + j = off + (j + 1) by omega]; exact hc (j + 1) u (by simpa using hu)⟩
theorem SlR.strs {D : Nat} {w : World} {xs : List ByteArray} {A : Option Addr} {len cap : Nat} {F : List Nat} (h : SlR 1 (StrR D) w xs (.slice A len cap) F) : Rd w w.heap.size A len (xs.map Value.string) ∧ (∀ x ∈ xs, x.size ≤ maxLen) := by
  obtain ⟨A', cap', hv, hl, hm, h⟩ := h
  injection hv with hA hlen hc
  subst hA hlen hc
  rcases h with ⟨rfl, _⟩ | ⟨b, off, F', hA, hb, _, he⟩
  · exact ⟨⟨rfl, fun h => by simp at h⟩, by simp⟩
  · obtain ⟨_, g1, g2⟩ := he.strs
    exact ⟨⟨by simp, fun _ => ⟨b, off, hA, hb, g2⟩⟩, g1⟩
theorem bulkS_sum (xs : List ByteArray) : bulkS xs = sumBy (fun x => (x.size : Int)) xs := by
  induction xs with
  | nil => rfl
  | cons x r ih => simp only [bulkS, sumBy, ih]
theorem zs_Str (D : Nat) (l : List ByteArray) (v : Value) (F : List Nat) (w : World) (L : Int) (hs : SlR 1 (StrR D) w l v F) (h0 : 0 ≤ L) (h1 : L ≤ 1048576) :
    Calls Tryz.prog 62 #[v, .int .i64 L] w fun en w' => Sized (l.length + bulkS l) L en ∧ Below w.heap.size w w' := by
  obtain ⟨A, cap, rfl, hlc, hm⟩ := hs.form
  unfold maxLen at hm
  obtain ⟨hr, hx⟩ := hs.strs
  exact (l_szStringS A l.length cap L l _ w hr (by omega) hx h0 h1).mono fun e w' ⟨h, hw⟩ => ⟨h, by subst hw; exact Below.refl _ _⟩
theorem es_Str (D : Nat) (l : List ByteArray) (v v' : Value) (F F' : List Nat) (w : World) (hs : SlR 1 (StrR D) w l v F) (hs' : SlR 1 (StrR D) w l v' F') :
    Calls Tryz.prog 96 #[v, v'] w fun en w' => en = .returned (.bool true) ∧ Below w.heap.size w w' := by
  obtain ⟨A, cap, rfl, hlc, hm⟩ := hs.form
  obtain ⟨A', cap', rfl, hlc', hm'⟩ := hs'.form
  unfold maxLen at hm hm'
  refine (l_eqStringS A A' l.length l.length cap cap' l l _ _ w hs.strs.1 hs'.strs.1 (by omega) (by omega)).mono ?_
  rintro e w' ⟨rfl, hb⟩
  exact ⟨by simp, hb⟩
theorem cs_Str (D : Nat) (l : List ByteArray) (v : Value) (F : List Nat) (w : World) (hs : SlR 1 (StrR D) w l v F) (hl : l.length ≤ 1048576) (hbl : bulkS l ≤ 1048576) :
    Calls Tryz.prog 76 #[v] w fun en w' => ∃ v' F', en = .returned v' ∧ SlR 1 (StrR D) w' l v' F' ∧ Fresh w.heap.size w' F' ∧ Below w.heap.size w w' := by
  obtain ⟨A, cap, rfl, hlc, hm⟩ := hs.form
  obtain ⟨hr, hx⟩ := hs.strs
  refine (l_toStringS A l.length cap l _ w hr hl (Nat.le_refl _)).mono ?_
  rintro e w' ⟨rfl, hblk, hb⟩
  have hel : ElR 1 (StrR D) w' w.heap.size 0 l [] := ElR.of_strs hx fun j u hu => by
    rw [cell_of_row _ _ _ _ _ _ hblk]
    simpa using hu
  obtain ⟨G, hG, hGf⟩ := copy_done (w := w) (by unfold maxLen; omega) hel (Fresh.nil _ _) hblk
  exact ⟨_, G, rfl, hG, hGf, hb⟩
end Go.Proofs.YthlhhnnlbpecnaaGreat

/- Expressions: how one lies in memory; the functions that only read one. Conditions: none beyond that it can be read. -/
namespace Go.Proofs.YthlhhnnlbpecnaaGreat
set_option linter.unusedSimpArgs false
set_option linter.unusedVariables false
set_option maxRecDepth 100000
open Go.RowKit Go.WideShapes

structure ExH where
  kind : Int
  n : Int
  pos : Int
  type : Int
  symbol : ByteArray
  name : ByteArray
inductive Ex where
  | mk (h : ExH) (args : List Ex)
def Ex.h : Ex → ExH
  | .mk h _ => h
def Ex.args : Ex → List Ex
  | .mk _ l => l
structure ExH.ok (h : ExH) : Prop where
  kind : (Lit.int .i64 h.kind).wf = true
  n : (Lit.int .i64 h.n).wf = true
  pos : (Lit.int .i64 h.pos).wf = true
  type : (Lit.int .i64 h.type).wf = true
  symbol : h.symbol.size ≤ maxLen
  name : h.name.size ≤ maxLen
def ExH.cells (h : ExH) (v : Value) : List Value := [.int .i64 h.kind, .int .i64 h.n, .int .i64 h.pos, .int .i64 h.type, .string h.symbol, .string h.name, v]
/-- An expression of depth at most d. -/
def ExR : Nat → CR Ex
  | 0, _, _, _, _ => False
  | d + 1, w, e, cs, F => ∃ v, cs = e.h.cells v ∧ e.h.ok ∧ SlR 7 (ExR d) w e.args v F
theorem ExR.good : ∀ d, Good 7 (ExR d)
  | 0 => ⟨fun h => h.elim, fun h => h.elim, fun h => h.elim⟩
  | d + 1 => by
    exact ⟨fun ⟨v, h, _⟩ => by rw [h]; rfl, fun ⟨v, h1, h2, h3⟩ hk hz => ⟨v, h1, h2, h3.frame (ExR.good d) hk hz⟩, fun ⟨v, h1, h2, h3⟩ => h3.lt (ExR.good d)⟩
theorem ExR.up : ∀ {d : Nat} {w : World} {e : Ex} {cs : List Value} {F : List Nat}, ExR d w e cs F → ∀ d', d ≤ d' → ExR d' w e cs F
  | 0, _, _, _, _, h, _, _ => h.elim
  | d + 1, w, e, cs, F, ⟨v, h1, h2, h3⟩, 0, hd => by omega
  | d + 1, w, e, cs, F, ⟨v, h1, h2, h3⟩, d' + 1, hd => ⟨v, h1, h2, h3.mono fun x cs F h => ExR.up h d' (by omega)⟩
theorem cells_Expr {H : Type} {enc : TypeId × Value → H} {w : World} {base : Nat} {sp : Nat → Bool} {held : Bool} : ∀ (fuel : Nat) {cs : List Value} {x : DataW H × List MemPlace},
    DataW.trod enc Tryz.prog w base sp held fuel 137 cs = some x → ∃ e F, ExR fuel w e cs F := by
  intro fuel
  induction fuel using Nat.strongRecOn with
  | _ fuel ih =>
    intro cs x h
    have ht := Tryz.underlying137
    have hl := (trod_len ht h).trans (show Tryz.prog.cellsOf 137 = 7 by kernel_rfl)
    obtain ⟨c0, c1, c2, c3, c4, c5, c6, rfl⟩ := list7 hl
    obtain ⟨z0, e0, w0⟩ := field_int 0 _ ht h rfl Tryz.underlying3 (by kernel_rfl)
    obtain ⟨z1, e1, w1⟩ := field_int 1 _ ht h rfl Tryz.underlying3 (by kernel_rfl)
    obtain ⟨z2, e2, w2⟩ := field_int 2 _ ht h rfl Tryz.underlying3 (by kernel_rfl)
    obtain ⟨z3, e3, w3⟩ := field_int 3 _ ht h rfl Tryz.underlying3 (by kernel_rfl)
    obtain ⟨z4, e4, w4⟩ := field_string 4 _ ht h rfl Tryz.underlying9 (by kernel_rfl)
    obtain ⟨z5, e5, w5⟩ := field_string 5 _ ht h rfl Tryz.underlying9 (by kernel_rfl)
    obtain ⟨n, y, hn, h6⟩ := trod_field 6 _ ht h rfl
    simp at e0 e1 e2 e3 e4 e5
    subst e0 e1 e2 e3 e4 e5
    obtain ⟨xs, v, F, hv, hs⟩ := open_SlR (n := 7) Tryz.underlying135 (by kernel_rfl) (by omega) (ExR n) h6 (fun m cs y hm hy => by
      obtain ⟨e, F, he⟩ := ih m (by omega) hy
      exact ⟨e, F, he.up n (by omega)⟩)
    have hc : (Tryz.prog.cellsOf 135) = 1 := by kernel_rfl
    simp [hc] at hv
    subst hv
    obtain ⟨f', rfl⟩ : ∃ f', fuel = f' + 1 := ⟨fuel - 1, by omega⟩
    exact ⟨.mk ⟨z0, z1, z2, z3, z4, z5⟩ xs, F, _, rfl, ⟨w0, w1, w2, w3, w4, w5⟩, hs.mono fun x cs F (hx : ExR n w x cs F) => hx.up f' (by omega)⟩
set_option maxRecDepth 100000 in
theorem open_Expr {H : Type} {enc : TypeId × Value → H} {w : World} {C base : Nat} {sp : Nat → Bool} {held : Bool} {v : Value} {d : DataW H} {p : List MemPlace} (hv : Value.okWide Tryz.prog w .any C 137 v)
    (h : DataW.Trod enc Tryz.prog w base sp held 137 v d p) : ∃ (D : Nat) (e : Ex) (cs : List Value) (F : List Nat), v = .agg cs.toArray ∧ ExR D w e cs F := by
  obtain ⟨cs, fuel, x, rfl, hf⟩ := okWide_cells Tryz.underlying137 hv h
  obtain ⟨e, F, he⟩ := cells_Expr fuel hf
  exact ⟨fuel, e, _, F, rfl, he⟩

/-- How many nodes. -/
def cntE : Nat → Ex → Int
  | 0, _ => 0
  | d + 1, e => 1 + sumBy (cntE d) e.args
theorem cntE_nonneg : ∀ d e, 0 ≤ cntE d e
  | 0, _ => Int.le_refl _
  | d + 1, e => by have := sumBy_nonneg (cntE_nonneg d) e.args; simp only [cntE]; omega

/-- Argument k of an expression: its seven cells, and how it lies. -/
theorem ex_get {d : Nat} {w : World} {l : List Ex} {A : Option Addr} {len cap : Nat} {F : List Nat} {k : Nat} {x : Ex} (h : SlR 7 (ExR d) w l (.slice A len cap) F) (hx : l[k]? = some x) :
    ∃ b off A' cap' Fk, A = some ⟨b, off, none⟩ ∧ b ∈ F ∧ (∀ j ∈ Fk, j ∈ F) ∧ x.h.ok ∧ x.args.length ≤ cap' ∧ cap' ≤ maxLen ∧
      CellsAt w b (off + k * 7) (x.h.cells (.slice A' x.args.length cap')) ∧ ExR d w x (x.h.cells (.slice A' x.args.length cap')) Fk := by
  obtain ⟨b, off, cs, Fk, hA, _, hbF, hFk, _, hc, hR⟩ := h.get (ExR.good d) hx
  match d, hR with
  | d + 1, hR =>
    obtain ⟨v, rfl, hok, hs⟩ := id hR
    obtain ⟨A', cap', rfl, hl, hm⟩ := hs.form
    exact ⟨b, off, A', cap', Fk, hA, hbF, hFk, hok, hl, hm, hc, hR⟩
/-- An expression by value: its form. -/
theorem ex_form {d : Nat} {w : World} {e : Ex} {cs : List Value} {F : List Nat} (h : ExR (d + 1) w e cs F) :
    ∃ A cap, cs = e.h.cells (.slice A e.args.length cap) ∧ e.h.ok ∧ e.args.length ≤ cap ∧ cap ≤ maxLen ∧ SlR 7 (ExR d) w e.args (.slice A e.args.length cap) F := by
  obtain ⟨v, rfl, hok, hs⟩ := h
  obtain ⟨A, cap, rfl, hl, hm⟩ := hs.form
  exact ⟨A, cap, rfl, hok, hl, hm, hs⟩

theorem i_CountExpr : ∀ (d : Nat) (e : Ex) (cs : List Value) (F : List Nat) (w : World), ExR d w e cs F → cntE d e ≤ 2097152 →
    Calls Tryz.prog 139 #[.agg cs.toArray] w fun en w' => en = .returned (.int .i64 (cntE d e)) ∧ Below w.heap.size w w'
  | 0, _, _, _, _, h, _ => h.elim
  | d + 1, e, cs, F, w, h, hcnt => by
    obtain ⟨A, cap, rfl, hok, hl, hm, hs⟩ := ex_form h
    have HF := hide (hs.lt (ExR.good d))
    obtain ⟨⟨k, n, p, t, s, m⟩, l⟩ := e
    unfold maxLen at hm
    simp only [Ex.args] at hs hl hm HF
    have hcnt : 1 + sumBy (cntE d) l ≤ 2097152 := hcnt
    show Calls _ _ #[.agg #[.int .i64 k, .int .i64 n, .int .i64 p, .int .i64 t, .string s, .string m, .slice A l.length cap]] w _
    generalize hbx : Obj.cells #[.int .i64 k, .int .i64 n, .int .i64 p, .int .i64 t, .string s, .string m, .slice A l.length cap] 86 = bx
    have HC := hide (CellsAt.new w [.int .i64 k, .int .i64 n, .int .i64 p, .int .i64 t, .string s, .string m, .slice A l.length cap] 86)
    rw [hbx] at HC
    obtain ⟨_, _, _, _, _, _, c6⟩ := HC.out.seven0
    have Hs := hide hs
    have Hnn := hide (cntE_nonneg d)
    clear hs hok h
    go_enter Tryz.func139, Tryz.ntmps139
    go_wp2_with fail
    go_loopw [3, 9] (fun c i wr => ∃ j : Nat, j ≤ l.length ∧ i = .int .i64 j ∧ c = .int .i64 (1 + sumBy (cntE d) (l.take j)) ∧ Hid (Below (w.heap.size + 1) (w.alloc bx) wr)) (fun _ i _ => l.length - (intOf i).toNat)
    case atStart => exact ⟨0, by omega, rfl, by simp [sumBy], hide (by rw [← hbx]; exact Below.refl _ _)⟩
    case round =>
      obtain ⟨j, hj, rfl, rfl, Hb⟩ := hrel
      obtain ⟨_, _, _, _, _, _, c6⟩ := (HC.out.below Hb.out (by omega)).seven0
      have hle := sumBy_take_le Hnn.out l j
      have hpos := sumBy_nonneg Hnn.out (l.take j)
      have Hb1 : Hid (Below w.heap.size w wr) := hide (box_below Hb.out)
      by_cases hlt : j < l.length
      · have hx : l[j]? = some l[j] := List.getElem?_eq_getElem hlt
        generalize l[j] = x at hx
        have hsum := sumBy_take_succ (f := cntE d) hx
        have hle2 := sumBy_take_le Hnn.out l (j + 1)
        have hcx := Hnn.out x
        rw [hsum] at hle2
        have Hsum := hide hsum
        obtain ⟨b, off, A', cap', Fk, hA, hbF, hFk, _, hl', hm', hcat, hR⟩ := ex_get (Hs.out.below (ExR.good d) Hb1.out HF.out) hx
        subst hA
        obtain ⟨e0, e1, e2, e3, e4, e5, e6⟩ := hcat.seven
        have hblt := Nat.lt_of_lt_of_le (HF.out b hbF) Hb1.out.size
        have HR := hide hR
        have HFk : Hid (∀ i ∈ Fk, i < wr.heap.size) := hide fun i hi => Nat.lt_of_lt_of_le (HF.out i (hFk i hi)) Hb1.out.size
        have hbz := Hb.out.size
        rw [World.size_alloc] at hbz
        clear hsum hx hR hcat hFk hbF hl' hm'
        go_wp2_with fail
        refine Calls.mono (i_CountExpr d x _ Fk _ ((ExR.good d).below HR.out ((Below.refl wr.heap.size wr).alloc (Nat.le_refl _) _) HFk.out) (by omega)) ?_
        rintro en w2 ⟨rfl, hb2⟩
        have HB2 : Hid (Below (w.heap.size + 1) (w.alloc bx) w2) := hide (Hb.out.trans (((Below.refl wr.heap.size wr).alloc (Nat.le_refl _) _ |>.mono (by omega)).trans (hb2.mono (by simp; omega))))
        clear hb2
        go_wp2_with fail
        go_roundw
        case rel => exact ⟨j + 1, by omega, by go_num, by rw [Hsum.out, Int.add_assoc], HB2⟩
        case measure => simp [intOf]; omega
      · have hjl : j = l.length := by omega
        rw [hjl, List.take_length] at *
        have HB := hide Hb1.out
        go_wp2_with fail
        go_ret
        exact ⟨rfl, HB.out⟩

theorem s_l1Max (a b : Int) (w : World) : Calls Tryz.prog 157 #[.int .i64 a, .int .i64 b] w fun e w' => e = .returned (.int .i64 (max a b)) ∧ w = w' := by
  by_cases h : b < a
  all_goals
    go_enter Tryz.func157, Tryz.ntmps157
    go_wp2
    go_ret
    exact ⟨ret_int (by omega), rfl⟩

/-- How deep. -/
def maxBy {α : Type} (f : α → Int) : List α → Int
  | [] => 0
  | x :: r => max (f x) (maxBy f r)
theorem maxBy_snoc {α : Type} (f : α → Int) (hf : ∀ x, 0 ≤ f x) (xs : List α) (x : α) : maxBy f (xs ++ [x]) = max (maxBy f xs) (f x) := by
  induction xs with
  | nil => have := hf x; simp only [List.nil_append, maxBy]; omega
  | cons y r ih => simp only [List.cons_append, maxBy, ih]; omega
theorem maxBy_take_succ {α : Type} {f : α → Int} (hf : ∀ x, 0 ≤ f x) {xs : List α} {k : Nat} {x : α} (hx : xs[k]? = some x) : maxBy f (xs.take (k + 1)) = max (maxBy f (xs.take k)) (f x) := by rw [take_snoc hx, maxBy_snoc f hf]
theorem maxBy_le_sum {α : Type} {f g : α → Int} (hf : ∀ x, 0 ≤ f x) (h : ∀ x, f x ≤ g x) : ∀ xs : List α, 0 ≤ maxBy f xs ∧ maxBy f xs ≤ sumBy g xs
  | [] => ⟨Int.le_refl _, Int.le_refl _⟩
  | x :: r => by
    have h1 := maxBy_le_sum hf h r
    have h2 := hf x
    have h3 := h x
    have h4 := sumBy_nonneg (f := g) (fun y => by have := hf y; have := h y; omega) r
    simp only [maxBy, sumBy]
    omega
def depE : Nat → Ex → Int
  | 0, _ => 0
  | d + 1, e => maxBy (depE d) e.args + 1
theorem depE_le : ∀ d e, 0 ≤ depE d e ∧ depE d e ≤ cntE d e
  | 0, _ => ⟨Int.le_refl _, Int.le_refl _⟩
  | d + 1, e => by
    have := maxBy_le_sum (fun x => (depE_le d x).1) (fun x => (depE_le d x).2) e.args
    simp only [depE, cntE]
    omega

theorem s_DepthOfExpr : ∀ (d : Nat) (e : Ex) (cs : List Value) (F : List Nat) (w : World), ExR d w e cs F → cntE d e ≤ 2097152 →
    Calls Tryz.prog 133 #[.agg cs.toArray] w fun en w' => en = .returned (.int .i64 (depE d e)) ∧ Below w.heap.size w w'
  | 0, _, _, _, _, h, _ => h.elim
  | d + 1, e, cs, F, w, h, hcnt => by
    obtain ⟨A, cap, rfl, hok, hl, hm, hs⟩ := ex_form h
    have HF := hide (hs.lt (ExR.good d))
    obtain ⟨⟨k, n, p, t, s, m⟩, l⟩ := e
    unfold maxLen at hm
    simp only [Ex.args] at hs hl hm HF
    have hcnt : 1 + sumBy (cntE d) l ≤ 2097152 := hcnt
    show Calls _ _ #[.agg #[.int .i64 k, .int .i64 n, .int .i64 p, .int .i64 t, .string s, .string m, .slice A l.length cap]] w _
    generalize hbx : Obj.cells #[.int .i64 k, .int .i64 n, .int .i64 p, .int .i64 t, .string s, .string m, .slice A l.length cap] 86 = bx
    have HC := hide (CellsAt.new w [.int .i64 k, .int .i64 n, .int .i64 p, .int .i64 t, .string s, .string m, .slice A l.length cap] 86)
    rw [hbx] at HC
    obtain ⟨_, _, _, _, _, _, c6⟩ := HC.out.seven0
    have Hs := hide hs
    have Hnn := hide (cntE_nonneg d)
    clear hs hok h
    go_enter Tryz.func133, Tryz.ntmps133
    go_wp2_with fail
    go_loopw [3, 4] (fun c i wr => ∃ j : Nat, j ≤ l.length ∧ i = .int .i64 j ∧ c = .int .i64 (maxBy (depE d) (l.take j)) ∧ Hid (Below (w.heap.size + 1) (w.alloc bx) wr)) (fun _ i _ => l.length - (intOf i).toNat)
    case atStart => exact ⟨0, by omega, rfl, rfl, hide (by rw [← hbx]; exact Below.refl _ _)⟩
    case round =>
      obtain ⟨j, hj, rfl, rfl, Hb⟩ := hrel
      obtain ⟨_, _, _, _, _, _, c6⟩ := (HC.out.below Hb.out (by omega)).seven0
      have hle := sumBy_take_le Hnn.out l j
      have hpos := sumBy_nonneg Hnn.out (l.take j)
      have Hb1 : Hid (Below w.heap.size w wr) := hide (box_below Hb.out)
      by_cases hlt : j < l.length
      · have hx : l[j]? = some l[j] := List.getElem?_eq_getElem hlt
        generalize l[j] = x at hx
        have hsum := sumBy_take_succ (f := cntE d) hx
        have hle2 := sumBy_take_le Hnn.out l (j + 1)
        have hcx := Hnn.out x
        have hdx := depE_le d x
        have hdm := maxBy_le_sum (fun x => (depE_le d x).1) (fun x => (depE_le d x).2) (l.take j)
        have Hmax := hide (maxBy_take_succ (f := depE d) (fun x => (depE_le d x).1) hx)
        rw [hsum] at hle2
        obtain ⟨b, off, A', cap', Fk, hA, hbF, hFk, _, hl', hm', hcat, hR⟩ := ex_get (Hs.out.below (ExR.good d) Hb1.out HF.out) hx
        subst hA
        obtain ⟨e0, e1, e2, e3, e4, e5, e6⟩ := hcat.seven
        have hblt := Nat.lt_of_lt_of_le (HF.out b hbF) Hb1.out.size
        have HR := hide hR
        have HFk : Hid (∀ i ∈ Fk, i < wr.heap.size) := hide fun i hi => Nat.lt_of_lt_of_le (HF.out i (hFk i hi)) Hb1.out.size
        have hbz := Hb.out.size
        rw [World.size_alloc] at hbz
        clear hsum hx hR hcat hFk hbF hl' hm'
        go_wp2_with fail
        refine Calls.mono (s_DepthOfExpr d x _ Fk _ HR.out (by omega)) ?_
        rintro en w2 ⟨rfl, hb2⟩
        have HB2 : Hid (Below (w.heap.size + 1) (w.alloc bx) w2) := hide (Hb.out.trans (hb2.mono (by omega)))
        clear hb2
        go_wp2_with (go_at_call 157; refine (s_l1Max _ _ _).mono ?_; rintro e w' ⟨rfl, rfl⟩)
        go_roundw
        case rel => exact ⟨j + 1, by omega, by go_num, by rw [Hmax.out], HB2⟩
        case measure => simp [intOf]; omega
      · have hjl : j = l.length := by omega
        rw [hjl, List.take_length] at *
        have hdm := maxBy_le_sum (fun x => (depE_le d x).1) (fun x => (depE_le d x).2) l
        have HB := hide Hb1.out
        go_wp2_with fail
        go_ret
        exact ⟨rfl, HB.out⟩

theorem i_DepthOfExpr : ∀ (d : Nat) (e : Ex) (cs : List Value) (F : List Nat) (w : World), ExR d w e cs F → cntE d e ≤ 2097152 →
    Calls Tryz.prog 140 #[.agg cs.toArray] w fun en w' => en = .returned (.int .i64 (depE d e)) ∧ Below w.heap.size w w'
  | 0, _, _, _, _, h, _ => h.elim
  | d + 1, e, cs, F, w, h, hcnt => by
    obtain ⟨A, cap, rfl, hok, hl, hm, hs⟩ := ex_form h
    have HF := hide (hs.lt (ExR.good d))
    obtain ⟨⟨k, n, p, t, s, m⟩, l⟩ := e
    unfold maxLen at hm
    simp only [Ex.args] at hs hl hm HF
    have hcnt : 1 + sumBy (cntE d) l ≤ 2097152 := hcnt
    show Calls _ _ #[.agg #[.int .i64 k, .int .i64 n, .int .i64 p, .int .i64 t, .string s, .string m, .slice A l.length cap]] w _
    generalize hbx : Obj.cells #[.int .i64 k, .int .i64 n, .int .i64 p, .int .i64 t, .string s, .string m, .slice A l.length cap] 86 = bx
    have HC := hide (CellsAt.new w [.int .i64 k, .int .i64 n, .int .i64 p, .int .i64 t, .string s, .string m, .slice A l.length cap] 86)
    rw [hbx] at HC
    obtain ⟨_, _, _, _, _, _, c6⟩ := HC.out.seven0
    have Hs := hide hs
    have Hnn := hide (cntE_nonneg d)
    clear hs hok h
    go_enter Tryz.func140, Tryz.ntmps140
    go_wp2_with fail
    go_loopw [3, 9] (fun c i wr => ∃ j : Nat, j ≤ l.length ∧ i = .int .i64 j ∧ c = .int .i64 (maxBy (depE d) (l.take j)) ∧ Hid (Below (w.heap.size + 1) (w.alloc bx) wr)) (fun _ i _ => l.length - (intOf i).toNat)
    case atStart => exact ⟨0, by omega, rfl, rfl, hide (by rw [← hbx]; exact Below.refl _ _)⟩
    case round =>
      obtain ⟨j, hj, rfl, rfl, Hb⟩ := hrel
      obtain ⟨_, _, _, _, _, _, c6⟩ := (HC.out.below Hb.out (by omega)).seven0
      have hle := sumBy_take_le Hnn.out l j
      have hpos := sumBy_nonneg Hnn.out (l.take j)
      have Hb1 : Hid (Below w.heap.size w wr) := hide (box_below Hb.out)
      by_cases hlt : j < l.length
      · have hx : l[j]? = some l[j] := List.getElem?_eq_getElem hlt
        generalize l[j] = x at hx
        have hsum := sumBy_take_succ (f := cntE d) hx
        have hle2 := sumBy_take_le Hnn.out l (j + 1)
        have hcx := Hnn.out x
        have hdx := depE_le d x
        have hdm := maxBy_le_sum (fun x => (depE_le d x).1) (fun x => (depE_le d x).2) (l.take j)
        have Hmax := hide (maxBy_take_succ (f := depE d) (fun x => (depE_le d x).1) hx)
        rw [hsum] at hle2
        obtain ⟨b, off, A', cap', Fk, hA, hbF, hFk, _, hl', hm', hcat, hR⟩ := ex_get (Hs.out.below (ExR.good d) Hb1.out HF.out) hx
        subst hA
        obtain ⟨e0, e1, e2, e3, e4, e5, e6⟩ := hcat.seven
        have hblt := Nat.lt_of_lt_of_le (HF.out b hbF) Hb1.out.size
        have HR := hide hR
        have HFk : Hid (∀ i ∈ Fk, i < wr.heap.size) := hide fun i hi => Nat.lt_of_lt_of_le (HF.out i (hFk i hi)) Hb1.out.size
        have hbz := Hb.out.size
        rw [World.size_alloc] at hbz
        clear hsum hx hR hcat hFk hbF hl' hm'
        go_wp2_with fail
        refine Calls.mono (i_DepthOfExpr d x _ Fk _ ((ExR.good d).below HR.out ((Below.refl wr.heap.size wr).alloc (Nat.le_refl _) _) HFk.out) (by omega)) ?_
        rintro en w2 ⟨rfl, hb2⟩
        have HB2 : Hid (Below (w.heap.size + 1) (w.alloc bx) w2) := hide (Hb.out.trans (((Below.refl wr.heap.size wr).alloc (Nat.le_refl _) _ |>.mono (by omega)).trans (hb2.mono (by simp; omega))))
        clear hb2
        by_cases hlm : maxBy (depE d) (l.take j) < depE d x
        all_goals
          go_wp2_with fail
          go_roundw
          case rel => exact ⟨j + 1, by omega, by go_num, by rw [Hmax.out]; try (first | rfl | (congr 1; omega)), HB2⟩
          case measure => simp [intOf]; omega
      · have hjl : j = l.length := by omega
        rw [hjl, List.take_length] at *
        have hdm := maxBy_le_sum (fun x => (depE_le d x).1) (fun x => (depE_le d x).2) l
        have HB := hide Hb1.out
        go_wp2_with fail
        go_ret
        exact ⟨rfl, HB.out⟩
end Go.Proofs.YthlhhnnlbpecnaaGreat
