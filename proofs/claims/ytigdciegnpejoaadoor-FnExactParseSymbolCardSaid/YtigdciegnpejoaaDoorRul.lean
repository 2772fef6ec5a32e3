/- Occurrences, equations, contributions and rules: how they lie in memory, their sizes, comparisons and copies. Conditions: a size is asked with at most 2^20; a copy is asked of what has at most that size. -/
import Derived.Test.YtigdciegnpejoaaDoorRows
import Derived.Test.YtigdciegnpejoaaDoorStrSl
import Derived.Test.YtigdciegnpejoaaDoorExGlue
import Derived.Test.YtigdciegnpejoaaDoorFrame
import Derived.Deep.QuietTactic
namespace Go.Proofs.YtigdciegnpejoaaDoor
set_option maxRecDepth 100000
open Go.RowKit Go.WideShapes
set_option linter.unusedVariables false

theorem list_6 {α : Type} {l : List α} (h : l.length = 6) : ∃ x0 x1 x2 x3 x4 x5, l = [x0, x1, x2, x3, x4, x5] := by
  match l, h with
  | [x0, x1, x2, x3, x4, x5], _ => exact ⟨x0, x1, x2, x3, x4, x5, rfl⟩
theorem list_9 {α : Type} {l : List α} (h : l.length = 9) : ∃ x0 x1 x2 x3 x4 x5 x6 x7 x8, l = [x0, x1, x2, x3, x4, x5, x6, x7, x8] := by
  match l, h with
  | [x0, x1, x2, x3, x4, x5, x6, x7, x8], _ => exact ⟨x0, x1, x2, x3, x4, x5, x6, x7, x8, rfl⟩
theorem list_16 {α : Type} {l : List α} (h : l.length = 16) : ∃ x0 x1 x2 x3 x4 x5 x6 x7 x8 x9 x10 x11 x12 x13 x14 x15, l = [x0, x1, x2, x3, x4, x5, x6, x7, x8, x9, x10, x11, x12, x13, x14, x15] := by
  match l, h with
  | [x0, x1, x2, x3, x4, x5, x6, x7, x8, x9, x10, x11, x12, x13, x14, x15], _ => exact ⟨x0, x1, x2, x3, x4, x5, x6, x7, x8, x9, x10, x11, x12, x13, x14, x15, rfl⟩
structure Occ where
  pos : Int
  name : ByteArray
structure Occ.ok (x : Occ) : Prop where
  pos : (Lit.int .i64 x.pos).wf = true
  name : x.name.size ≤ maxLen
def OccR (D : Nat) : CR Occ := fun w x cs F => cs.length = 2 ∧ x.ok ∧ cs[0]? = some (.int .i64 x.pos) ∧ cs[1]? = some (.string x.name) ∧ F = []
theorem OccR.good (D : Nat) : Good 2 (OccR D) where
  len := fun {w x cs F} h => by
    obtain ⟨hl, hk, h0, h1, rfl⟩ := h
    exact hl
  frame := fun {w w' x cs F} h he hz => by
    obtain ⟨hl, hk, h0, h1, rfl⟩ := h
    exact ⟨hl, hk, h0, h1, rfl⟩
  lt := fun {w x cs F} h b hb => by
    obtain ⟨hl, hk, h0, h1, rfl⟩ := h
    cases hb
theorem OccR.up {D : Nat} {w : World} {x : Occ} {cs : List Value} {F : List Nat} (h : OccR D w x cs F) (D' : Nat) (hd : D ≤ D') : OccR D' w x cs F := by
  obtain ⟨hl, hk, h0, h1, rfl⟩ := h
  exact ⟨hl, hk, h0, h1, rfl⟩
theorem OccR.one {D : Nat} {w : World} {x : Occ} {cs : List Value} {F : List Nat} (h : OccR D w x cs F) : ∀ v ∈ cs, v.oneCell' = true := by
  obtain ⟨c0, c1, rfl⟩ := list2 ((OccR.good D).len h)
  obtain ⟨hl, hk, h0, h1, rfl⟩ := h
  intro v hv
  simp only [List.mem_cons, List.not_mem_nil, or_false] at hv
  rcases hv with rfl | rfl
  · obtain rfl := Option.some.inj h0
    rfl
  · obtain rfl := Option.some.inj h1
    rfl
def bulkOcc (D : Nat) (x : Occ) : Int := (x.name.size : Int)
theorem bulkOcc_nonneg (D : Nat) (x : Occ) : 0 ≤ bulkOcc D x := by unfold bulkOcc; omega
structure Eqn where
  at_ : Occ
  expr : Ex
def EqnR (D : Nat) : CR Eqn := fun w x cs F => ∃ (F0 : List Nat) (F1 : List Nat), cs.length = 9 ∧ OccR D w x.at_ ((cs.drop 0).take 2) F0 ∧ ExR D w x.expr ((cs.drop 2).take 7) F1 ∧ F = F0 ++ (F1)
theorem EqnR.good (D : Nat) : Good 9 (EqnR D) where
  len := fun {w x cs F} h => by
    obtain ⟨F0, F1, hl, h0, h1, rfl⟩ := h
    exact hl
  frame := fun {w w' x cs F} h he hz => by
    obtain ⟨F0, F1, hl, h0, h1, rfl⟩ := h
    exact ⟨F0, F1, hl, (OccR.good D).frame h0 (fun k hk' => he k (by simp only [List.mem_append]; simp [hk'])) hz, (ExR.good D).frame h1 (fun k hk' => he k (by simp only [List.mem_append]; simp [hk'])) hz, rfl⟩
  lt := fun {w x cs F} h b hb => by
    obtain ⟨F0, F1, hl, h0, h1, rfl⟩ := h
    rcases List.mem_append.1 hb with hb | hb
    · exact (OccR.good D).lt h0 b hb
    · exact (ExR.good D).lt h1 b hb
theorem EqnR.up {D : Nat} {w : World} {x : Eqn} {cs : List Value} {F : List Nat} (h : EqnR D w x cs F) (D' : Nat) (hd : D ≤ D') : EqnR D' w x cs F := by
  obtain ⟨F0, F1, hl, h0, h1, rfl⟩ := h
  exact ⟨F0, F1, hl, h0.up _ hd, h1.up _ hd, rfl⟩
theorem EqnR.one {D : Nat} {w : World} {x : Eqn} {cs : List Value} {F : List Nat} (h : EqnR D w x cs F) : ∀ v ∈ cs, v.oneCell' = true := by
  obtain ⟨c0, c1, c2, c3, c4, c5, c6, c7, c8, rfl⟩ := list_9 ((EqnR.good D).len h)
  obtain ⟨F0, F1, hl, h0, h1, rfl⟩ := h
  intro v hv
  simp only [List.mem_cons, List.not_mem_nil, or_false] at hv
  rcases hv with rfl | rfl | rfl | rfl | rfl | rfl | rfl | rfl | rfl
  · exact OccR.one h0 _ (by simp)
  · exact OccR.one h0 _ (by simp)
  · exact ExR.one h1 _ (by simp)
  · exact ExR.one h1 _ (by simp)
  · exact ExR.one h1 _ (by simp)
  · exact ExR.one h1 _ (by simp)
  · exact ExR.one h1 _ (by simp)
  · exact ExR.one h1 _ (by simp)
  · exact ExR.one h1 _ (by simp)
def bulkEqn (D : Nat) (x : Eqn) : Int := bulkOcc D x.at_ + bulkE D x.expr
theorem bulkEqn_nonneg (D : Nat) (x : Eqn) : 0 ≤ bulkEqn D x := by unfold bulkEqn; have := bulkOcc_nonneg D x.at_; have := bulkE_nonneg D x.expr; omega
structure Con where
  symbol : ByteArray
  name : ByteArray
  target : Ex
  value : Ex
structure Con.ok (x : Con) : Prop where
  symbol : x.symbol.size ≤ maxLen
  name : x.name.size ≤ maxLen
def ConR (D : Nat) : CR Con := fun w x cs F => ∃ (F2 : List Nat) (F3 : List Nat), cs.length = 16 ∧ x.ok ∧ cs[0]? = some (.string x.symbol) ∧ cs[1]? = some (.string x.name) ∧ ExR D w x.target ((cs.drop 2).take 7) F2 ∧ ExR D w x.value ((cs.drop 9).take 7) F3 ∧ F = F2 ++ (F3)
theorem ConR.good (D : Nat) : Good 16 (ConR D) where
  len := fun {w x cs F} h => by
    obtain ⟨F2, F3, hl, hk, h0, h1, h2, h3, rfl⟩ := h
    exact hl
  frame := fun {w w' x cs F} h he hz => by
    obtain ⟨F2, F3, hl, hk, h0, h1, h2, h3, rfl⟩ := h
    exact ⟨F2, F3, hl, hk, h0, h1, (ExR.good D).frame h2 (fun k hk' => he k (by simp only [List.mem_append]; simp [hk'])) hz, (ExR.good D).frame h3 (fun k hk' => he k (by simp only [List.mem_append]; simp [hk'])) hz, rfl⟩
  lt := fun {w x cs F} h b hb => by
    obtain ⟨F2, F3, hl, hk, h0, h1, h2, h3, rfl⟩ := h
    rcases List.mem_append.1 hb with hb | hb
    · exact (ExR.good D).lt h2 b hb
    · exact (ExR.good D).lt h3 b hb
theorem ConR.up {D : Nat} {w : World} {x : Con} {cs : List Value} {F : List Nat} (h : ConR D w x cs F) (D' : Nat) (hd : D ≤ D') : ConR D' w x cs F := by
  obtain ⟨F2, F3, hl, hk, h0, h1, h2, h3, rfl⟩ := h
  exact ⟨F2, F3, hl, hk, h0, h1, h2.up _ hd, h3.up _ hd, rfl⟩
theorem ConR.one {D : Nat} {w : World} {x : Con} {cs : List Value} {F : List Nat} (h : ConR D w x cs F) : ∀ v ∈ cs, v.oneCell' = true := by
  obtain ⟨c0, c1, c2, c3, c4, c5, c6, c7, c8, c9, c10, c11, c12, c13, c14, c15, rfl⟩ := list_16 ((ConR.good D).len h)
  obtain ⟨F2, F3, hl, hk, h0, h1, h2, h3, rfl⟩ := h
  intro v hv
  simp only [List.mem_cons, List.not_mem_nil, or_false] at hv
  rcases hv with rfl | rfl | rfl | rfl | rfl | rfl | rfl | rfl | rfl | rfl | rfl | rfl | rfl | rfl | rfl | rfl
  · obtain rfl := Option.some.inj h0
    rfl
  · obtain rfl := Option.some.inj h1
    rfl
  · exact ExR.one h2 _ (by simp)
  · exact ExR.one h2 _ (by simp)
  · exact ExR.one h2 _ (by simp)
  · exact ExR.one h2 _ (by simp)
  · exact ExR.one h2 _ (by simp)
  · exact ExR.one h2 _ (by simp)
  · exact ExR.one h2 _ (by simp)
  · exact ExR.one h3 _ (by simp)
  · exact ExR.one h3 _ (by simp)
  · exact ExR.one h3 _ (by simp)
  · exact ExR.one h3 _ (by simp)
  · exact ExR.one h3 _ (by simp)
  · exact ExR.one h3 _ (by simp)
  · exact ExR.one h3 _ (by simp)
def bulkCon (D : Nat) (x : Con) : Int := (x.symbol.size : Int) + (x.name.size : Int) + bulkE D x.target + bulkE D x.value
theorem bulkCon_nonneg (D : Nat) (x : Con) : 0 ≤ bulkCon D x := by unfold bulkCon; have := bulkE_nonneg D x.target; have := bulkE_nonneg D x.value; omega
structure Rul where
  name : ByteArray
  left : ByteArray
  right : List ByteArray
  lit : Bool
  eqs : List Eqn
  cons : List Con
structure Rul.ok (x : Rul) : Prop where
  name : x.name.size ≤ maxLen
  left : x.left.size ≤ maxLen
def RulR (D : Nat) : CR Rul := fun w x cs F => ∃ (v2 : Value) (F2 : List Nat) (v4 : Value) (F4 : List Nat) (v5 : Value) (F5 : List Nat), cs.length = 6 ∧ x.ok ∧ cs[0]? = some (.string x.name) ∧ cs[1]? = some (.string x.left) ∧ (cs[2]? = some v2 ∧ SlR 1 (StrR D) w x.right v2 F2) ∧ cs[3]? = some (.bool x.lit) ∧ (cs[4]? = some v4 ∧ SlR 9 (EqnR D) w x.eqs v4 F4) ∧ (cs[5]? = some v5 ∧ SlR 16 (ConR D) w x.cons v5 F5) ∧ F = F2 ++ (F4 ++ F5)
theorem RulR.good (D : Nat) : Good 6 (RulR D) where
  len := fun {w x cs F} h => by
    obtain ⟨v2, F2, v4, F4, v5, F5, hl, hk, h0, h1, ⟨h2, g2⟩, h3, ⟨h4, g4⟩, ⟨h5, g5⟩, rfl⟩ := h
    exact hl
  frame := fun {w w' x cs F} h he hz => by
    obtain ⟨v2, F2, v4, F4, v5, F5, hl, hk, h0, h1, ⟨h2, g2⟩, h3, ⟨h4, g4⟩, ⟨h5, g5⟩, rfl⟩ := h
    exact ⟨v2, F2, v4, F4, v5, F5, hl, hk, h0, h1, ⟨h2, g2.frame (StrR.good D) (fun k hk' => he k (by simp only [List.mem_append]; simp [hk'])) hz⟩, h3, ⟨h4, g4.frame (EqnR.good D) (fun k hk' => he k (by simp only [List.mem_append]; simp [hk'])) hz⟩, ⟨h5, g5.frame (ConR.good D) (fun k hk' => he k (by simp only [List.mem_append]; simp [hk'])) hz⟩, rfl⟩
  lt := fun {w x cs F} h b hb => by
    obtain ⟨v2, F2, v4, F4, v5, F5, hl, hk, h0, h1, ⟨h2, g2⟩, h3, ⟨h4, g4⟩, ⟨h5, g5⟩, rfl⟩ := h
    rcases List.mem_append.1 hb with hb | hb
    · exact g2.lt (StrR.good D) b hb
    rcases List.mem_append.1 hb with hb | hb
    · exact g4.lt (EqnR.good D) b hb
    · exact g5.lt (ConR.good D) b hb
theorem RulR.up {D : Nat} {w : World} {x : Rul} {cs : List Value} {F : List Nat} (h : RulR D w x cs F) (D' : Nat) (hd : D ≤ D') : RulR D' w x cs F := by
  obtain ⟨v2, F2, v4, F4, v5, F5, hl, hk, h0, h1, ⟨h2, g2⟩, h3, ⟨h4, g4⟩, ⟨h5, g5⟩, rfl⟩ := h
  exact ⟨v2, F2, v4, F4, v5, F5, hl, hk, h0, h1, ⟨h2, g2.mono fun _ _ _ q => StrR.up q _ hd⟩, h3, ⟨h4, g4.mono fun _ _ _ q => EqnR.up q _ hd⟩, ⟨h5, g5.mono fun _ _ _ q => ConR.up q _ hd⟩, rfl⟩
theorem RulR.one {D : Nat} {w : World} {x : Rul} {cs : List Value} {F : List Nat} (h : RulR D w x cs F) : ∀ v ∈ cs, v.oneCell' = true := by
  obtain ⟨c0, c1, c2, c3, c4, c5, rfl⟩ := list_6 ((RulR.good D).len h)
  obtain ⟨v2, F2, v4, F4, v5, F5, hl, hk, h0, h1, ⟨h2, g2⟩, h3, ⟨h4, g4⟩, ⟨h5, g5⟩, rfl⟩ := h
  intro v hv
  simp only [List.mem_cons, List.not_mem_nil, or_false] at hv
  rcases hv with rfl | rfl | rfl | rfl | rfl | rfl
  · obtain rfl := Option.some.inj h0
    rfl
  · obtain rfl := Option.some.inj h1
    rfl
  · obtain ⟨A, cap, hv, _, _⟩ := g2.form
    obtain rfl := Option.some.inj h2
    rw [hv]
    rfl
  · obtain rfl := Option.some.inj h3
    rfl
  · obtain ⟨A, cap, hv, _, _⟩ := g4.form
    obtain rfl := Option.some.inj h4
    rw [hv]
    rfl
  · obtain ⟨A, cap, hv, _, _⟩ := g5.form
    obtain rfl := Option.some.inj h5
    rw [hv]
    rfl
def bulkRul (D : Nat) (x : Rul) : Int := (x.name.size : Int) + (x.left.size : Int) + (x.right.length + bulkS x.right) + (x.eqs.length + sumBy (bulkEqn D) x.eqs) + (x.cons.length + sumBy (bulkCon D) x.cons)
theorem bulkRul_nonneg (D : Nat) (x : Rul) : 0 ≤ bulkRul D x := by unfold bulkRul; have := bulkS_nonneg x.right; have := sumBy_nonneg (bulkEqn_nonneg D) x.eqs; have := sumBy_nonneg (bulkCon_nonneg D) x.cons; omega
end Go.Proofs.YtigdciegnpejoaaDoor
