/- Expressions: how one lies in memory; the functions that only read one. Conditions: none beyond that it can be read. -/
import Derived.Test.YtfbcipfionhhaaaRows
import Derived.Test.YtfbcipfionhhaaaMem
import Derived.WalkLawsBesides
import Derived.WalkSpells
namespace Go.Proofs.Ytfbcipfionhhaaa
set_option maxRecDepth 100000
open Go.RowKit Go.WideShapes

structure ExH where
  kind : Int
  n : Int
  pos : Int
  type : Int
  symbol : ByteArray
  name : ByteArray
inductive Ex where
  | mk (h : ExH) (args : List Ex)
def Ex.h : Ex → ExH
  | .mk h _ => h
def Ex.args : Ex → List Ex
  | .mk _ l => l
structure ExH.ok (h : ExH) : Prop where
  kind : (Lit.int .i64 h.kind).wf = true
  n : (Lit.int .i64 h.n).wf = true
  pos : (Lit.int .i64 h.pos).wf = true
  type : (Lit.int .i64 h.type).wf = true
  symbol : h.symbol.size ≤ maxLen
  name : h.name.size ≤ maxLen
def ExH.cells (h : ExH) (v : Value) : List Value := [.int .i64 h.kind, .int .i64 h.n, .int .i64 h.pos, .int .i64 h.type, .string h.symbol, .string h.name, v]
/-- An expression of depth at most d. -/
def ExR : Nat → CR Ex
  | 0, _, _, _, _ => False
  | d + 1, w, e, cs, F => ∃ v, cs = e.h.cells v ∧ e.h.ok ∧ SlR 7 (ExR d) w e.args v F
theorem ExR.good : ∀ d, Good 7 (ExR d)
  | 0 => ⟨fun h => h.elim, fun h => h.elim, fun h => h.elim⟩
  | d + 1 => by
    exact ⟨fun ⟨v, h, _⟩ => by rw [h]; rfl, fun ⟨v, h1, h2, h3⟩ hk hz => ⟨v, h1, h2, h3.frame (ExR.good d) hk hz⟩, fun ⟨v, h1, h2, h3⟩ => h3.lt (ExR.good d)⟩
theorem ExR.up : ∀ {d : Nat} {w : World} {e : Ex} {cs : List Value} {F : List Nat}, ExR d w e cs F → ∀ d', d ≤ d' → ExR d' w e cs F
  | 0, _, _, _, _, h, _, _ => h.elim
  | d + 1, w, e, cs, F, ⟨v, h1, h2, h3⟩, 0, hd => by omega
  | d + 1, w, e, cs, F, ⟨v, h1, h2, h3⟩, d' + 1, hd => ⟨v, h1, h2, h3.mono fun x cs F h => ExR.up h d' (by omega)⟩
theorem cells_Expr {H : Type} {enc : TypeId × Value → H} {w : World} {base : Nat} {sp : Nat → Bool} {held : Bool} : ∀ (fuel : Nat) {cs : List Value} {x : DataW H × List MemPlace},
    DataW.trod enc Try.prog w base sp held fuel 24 cs = some x → ∃ e F, ExR fuel w e cs F := by
  intro fuel
  induction fuel using Nat.strongRecOn with
  | _ fuel ih =>
    intro cs x h
    have ht := Try.underlying24
    have hl := (trod_len ht h).trans (show Try.prog.cellsOf 24 = 7 by kernel_rfl)
    obtain ⟨c0, c1, c2, c3, c4, c5, c6, rfl⟩ := list7 hl
    obtain ⟨z0, e0, w0⟩ := field_int 0 _ ht h rfl Try.underlying3 (by kernel_rfl)
    obtain ⟨z1, e1, w1⟩ := field_int 1 _ ht h rfl Try.underlying3 (by kernel_rfl)
    obtain ⟨z2, e2, w2⟩ := field_int 2 _ ht h rfl Try.underlying3 (by kernel_rfl)
    obtain ⟨z3, e3, w3⟩ := field_int 3 _ ht h rfl Try.underlying3 (by kernel_rfl)
    obtain ⟨z4, e4, w4⟩ := field_string 4 _ ht h rfl Try.underlying9 (by kernel_rfl)
    obtain ⟨z5, e5, w5⟩ := field_string 5 _ ht h rfl Try.underlying9 (by kernel_rfl)
    obtain ⟨n, y, hn, h6⟩ := trod_field 6 _ ht h rfl
    simp at e0 e1 e2 e3 e4 e5
    subst e0 e1 e2 e3 e4 e5
    obtain ⟨xs, v, F, hv, hs⟩ := open_SlR (n := 7) Try.underlying22 (by kernel_rfl) (by omega) (ExR n) h6 (fun m cs y hm hy => by
      obtain ⟨e, F, he⟩ := ih m (by omega) hy
      exact ⟨e, F, he.up n (by omega)⟩)
    have hc : (Try.prog.cellsOf 22) = 1 := by kernel_rfl
    simp [hc] at hv
    subst hv
    obtain ⟨f', rfl⟩ : ∃ f', fuel = f' + 1 := ⟨fuel - 1, by omega⟩
    exact ⟨.mk ⟨z0, z1, z2, z3, z4, z5⟩ xs, F, _, rfl, ⟨w0, w1, w2, w3, w4, w5⟩, hs.mono fun x cs F (hx : ExR n w x cs F) => hx.up f' (by omega)⟩
set_option maxRecDepth 100000 in
theorem open_Expr {H : Type} {enc : TypeId × Value → H} {w : World} {C base : Nat} {sp : Nat → Bool} {held : Bool} {v : Value} {d : DataW H} {p : List MemPlace} (hv : Value.okWide Try.prog w .any C 24 v)
    (h : DataW.Trod enc Try.prog w base sp held 24 v d p) : ∃ (D : Nat) (e : Ex) (cs : List Value) (F : List Nat), v = .agg cs.toArray ∧ ExR D w e cs F := by
  obtain ⟨cs, fuel, x, rfl, hf⟩ := okWide_cells Try.underlying24 hv h
  obtain ⟨e, F, he⟩ := cells_Expr fuel hf
  exact ⟨fuel, e, _, F, rfl, he⟩

/-- How many nodes. -/
def cntE : Nat → Ex → Int
  | 0, _ => 0
  | d + 1, e => 1 + sumBy (cntE d) e.args
theorem cntE_nonneg : ∀ d e, 0 ≤ cntE d e
  | 0, _ => Int.le_refl _
  | d + 1, e => by have := sumBy_nonneg (cntE_nonneg d) e.args; simp only [cntE]; omega

/-- Argument k of an expression: its seven cells, and how it lies. -/
theorem ex_get {d : Nat} {w : World} {l : List Ex} {A : Option Addr} {len cap : Nat} {F : List Nat} {k : Nat} {x : Ex} (h : SlR 7 (ExR d) w l (.slice A len cap) F) (hx : l[k]? = some x) :
    ∃ b off A' cap' Fk, A = some ⟨b, off, none⟩ ∧ b ∈ F ∧ (∀ j ∈ Fk, j ∈ F) ∧ x.h.ok ∧ x.args.length ≤ cap' ∧ cap' ≤ maxLen ∧
      CellsAt w b (off + k * 7) (x.h.cells (.slice A' x.args.length cap')) ∧ ExR d w x (x.h.cells (.slice A' x.args.length cap')) Fk := by
  obtain ⟨b, off, cs, Fk, hA, _, hbF, hFk, _, hc, hR⟩ := h.get (ExR.good d) hx
  match d, hR with
  | d + 1, hR =>
    obtain ⟨v, rfl, hok, hs⟩ := id hR
    obtain ⟨A', cap', rfl, hl, hm⟩ := hs.form
    exact ⟨b, off, A', cap', Fk, hA, hbF, hFk, hok, hl, hm, hc, hR⟩
/-- An expression by value: its form. -/
theorem ex_form {d : Nat} {w : World} {e : Ex} {cs : List Value} {F : List Nat} (h : ExR (d + 1) w e cs F) :
    ∃ A cap, cs = e.h.cells (.slice A e.args.length cap) ∧ e.h.ok ∧ e.args.length ≤ cap ∧ cap ≤ maxLen ∧ SlR 7 (ExR d) w e.args (.slice A e.args.length cap) F := by
  obtain ⟨v, rfl, hok, hs⟩ := h
  obtain ⟨A, cap, rfl, hl, hm⟩ := hs.form
  exact ⟨A, cap, rfl, hok, hl, hm, hs⟩

theorem s_l1Max (a b : Int) (w : World) : Calls Try.prog 109 #[.int .i64 a, .int .i64 b] w fun e w' => e = .returned (.int .i64 (max a b)) ∧ w = w' := by
  by_cases h : b < a
  all_goals
    go_enter Try.func109, Try.ntmps109
    go_wp2
    go_ret
    exact ⟨ret_int (by omega), rfl⟩

/-- How deep. -/
def maxBy {α : Type} (f : α → Int) : List α → Int
  | [] => 0
  | x :: r => max (f x) (maxBy f r)
theorem maxBy_snoc {α : Type} (f : α → Int) (hf : ∀ x, 0 ≤ f x) (xs : List α) (x : α) : maxBy f (xs ++ [x]) = max (maxBy f xs) (f x) := by
  induction xs with
  | nil => have := hf x; simp only [List.nil_append, maxBy]; omega
  | cons y r ih => simp only [List.cons_append, maxBy, ih]; omega
theorem maxBy_take_succ {α : Type} {f : α → Int} (hf : ∀ x, 0 ≤ f x) {xs : List α} {k : Nat} {x : α} (hx : xs[k]? = some x) : maxBy f (xs.take (k + 1)) = max (maxBy f (xs.take k)) (f x) := by rw [take_snoc hx, maxBy_snoc f hf]
theorem maxBy_le_sum {α : Type} {f g : α → Int} (hf : ∀ x, 0 ≤ f x) (h : ∀ x, f x ≤ g x) : ∀ xs : List α, 0 ≤ maxBy f xs ∧ maxBy f xs ≤ sumBy g xs
  | [] => ⟨Int.le_refl _, Int.le_refl _⟩
  | x :: r => by
    have h1 := maxBy_le_sum hf h r
    have h2 := hf x
    have h3 := h x
    have h4 := sumBy_nonneg (f := g) (fun y => by have := hf y; have := h y; omega) r
    simp only [maxBy, sumBy]
    omega
def depE : Nat → Ex → Int
  | 0, _ => 0
  | d + 1, e => maxBy (depE d) e.args + 1
theorem depE_le : ∀ d e, 0 ≤ depE d e ∧ depE d e ≤ cntE d e
  | 0, _ => ⟨Int.le_refl _, Int.le_refl _⟩
  | d + 1, e => by
    have := maxBy_le_sum (fun x => (depE_le d x).1) (fun x => (depE_le d x).2) e.args
    simp only [depE, cntE]
    omega

end Go.Proofs.Ytfbcipfionhhaaa
