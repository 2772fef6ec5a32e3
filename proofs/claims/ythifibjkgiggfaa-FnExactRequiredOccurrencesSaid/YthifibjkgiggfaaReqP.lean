/- The attributes that a rule must define: plain laws. -/
import Derived.Test.YthifibjkgiggfaaMayS
import Derived.Test.YthifibjkgiggfaaOwn2
import Derived.Test.YthifibjkgiggfaaInfo
namespace Go.Proofs.Ythifibjkgiggfaa
set_option maxRecDepth 100000
open Go.RowKit Go.WideShapes
set_option linter.unusedVariables false

theorem infoOcc : (Try.prog.info? 41).map (fun i => (i.zero, i.size, i.bytes)) = some (some (.agg #[.int .i64 0, .string ByteArray.empty]), 2, 24) := by kernel_rfl
def reqT (g : Grm) (x : Rul) (n : Nat) : List Occ := (List.range n).flatMap (dueAt g x)
def dueP (l : List Atr) (m : Int) (n j : Nat) : List Occ := ((l.take j).filter fun a => a.mode == m).map fun a => ⟨n, a.name⟩
theorem dueMode_zero {n : Nat} (h : n = 0) : dueMode n = 2 := by unfold dueMode; rw [if_pos h]
theorem dueMode_pos {n : Nat} (h : ¬ n = 0) : dueMode n = 1 := by unfold dueMode; rw [if_neg h]
theorem reqT_zero (g : Grm) (x : Rul) : reqT g x 0 = [] := rfl
theorem reqT_succ (g : Grm) (x : Rul) (n : Nat) : reqT g x (n + 1) = reqT g x n ++ dueAt g x n := by
  unfold reqT
  rw [List.range_succ, List.flatMap_append]
  simp
theorem dueP_zero (l : List Atr) (m : Int) (n : Nat) : dueP l m n 0 = [] := rfl
theorem dueP_keep {l : List Atr} {m : Int} {n j : Nat} {a : Atr} (ha : l[j]? = some a) (h : a.mode = m) : dueP l m n (j + 1) = dueP l m n j ++ [⟨n, a.name⟩] := by
  unfold dueP
  rw [take_snoc ha, List.filter_append]
  simp [List.filter, h]
theorem dueP_drop {l : List Atr} {m : Int} {n j : Nat} {a : Atr} (ha : l[j]? = some a) (h : ¬ a.mode = m) : dueP l m n (j + 1) = dueP l m n j := by
  unfold dueP
  rw [take_snoc ha, List.filter_append]
  have h2 : (a.mode == m) = false := by simpa using h
  simp [List.filter, h2]
theorem dueP_all {g : Grm} {x : Rul} {n : Nat} {X : Sym} {m : Int} (hX : (findS g.symbols (symAt x n)).getD Sym.zero = X) (hm : dueMode n = m) : dueP X.attrs m n X.attrs.length = dueAt g x n := by
  unfold dueP dueAt
  rw [List.take_length, hX, hm]
theorem dueP_len (l : List Atr) (m : Int) (n j : Nat) : (dueP l m n j).length ≤ l.length := by
  unfold dueP
  rw [List.length_map]
  exact Nat.le_trans (List.length_filter_le _ _) (by rw [List.length_take]; exact Nat.min_le_right _ _)
theorem attrs_le {D : Nat} (g : Grm) (s : ByteArray) : (((findS g.symbols s).getD Sym.zero).attrs.length : Int) ≤ bulkGrm D g := by
  have hr := sumBy_nonneg (bulkRul_nonneg D) g.rules
  cases hf : findS g.symbols s with
  | none =>
    have := bulkGrm_nonneg D g
    simpa [Sym.zero] using this
  | some y =>
    have h1 := sumBy_mem (bulkSym_nonneg D) (List.mem_of_find?_eq_some hf)
    have h2 := sumBy_nonneg (bulkAtr_nonneg D) y.attrs
    have h3 : bulkSym D y = (y.name.size : Int) + (y.attrs.length + sumBy (bulkAtr D) y.attrs) := rfl
    have h4 : bulkGrm D g = (g.symbols.length + sumBy (bulkSym D) g.symbols) + (g.rules.length + sumBy (bulkRul D) g.rules) := rfl
    show (y.attrs.length : Int) ≤ _
    omega
theorem dueAt_le (D : Nat) (g : Grm) (x : Rul) (n : Nat) : (dueAt g x n).length ≤ (bulkGrm D g).toNat := by
  have h := attrs_le (D := D) g (symAt x n)
  have := List.length_filter_le (fun a : Atr => a.mode == dueMode n) ((findS g.symbols (symAt x n)).getD Sym.zero).attrs
  unfold dueAt
  rw [List.length_map]
  omega
theorem reqT_le (D : Nat) (g : Grm) (x : Rul) : ∀ n, (reqT g x n).length ≤ n * (bulkGrm D g).toNat
  | 0 => by simp [reqT_zero]
  | n + 1 => by
    have h1 := reqT_le D g x n
    have h2 := dueAt_le D g x n
    rw [reqT_succ, List.length_append, Nat.succ_mul]
    omega
theorem mul_small {a b : Nat} (h : a + b ≤ 1048576) : (a + 1) * b ≤ 412317384704 := by
  by_cases h1 : a + 1 ≤ 262144
  · exact Nat.le_trans (Nat.mul_le_mul h1 (show b ≤ 1048576 by omega)) (by decide)
  · by_cases h2 : a + 1 ≤ 524288
    · exact Nat.le_trans (Nat.mul_le_mul h2 (show b ≤ 786433 by omega)) (by decide)
    · by_cases h3 : a + 1 ≤ 786433
      · exact Nat.le_trans (Nat.mul_le_mul h3 (show b ≤ 524288 by omega)) (by decide)
      · exact Nat.le_trans (Nat.mul_le_mul (show a + 1 ≤ 1048577 by omega) (show b ≤ 262144 by omega)) (by decide)
theorem req_mul {D : Nat} {g : Grm} {x : Rul} (hj : bulkGrm D g + bulkRul D x ≤ 1048576) : (x.right.length + 1) * (bulkGrm D g).toNat ≤ 412317384704 := by
  have h1 := bulkS_nonneg x.right
  have h2 := sumBy_nonneg (bulkEqn_nonneg D) x.eqs
  have h3 := sumBy_nonneg (bulkCon_nonneg D) x.cons
  have h4 := bulkGrm_nonneg D g
  unfold bulkRul at hj
  exact mul_small (by omega)
theorem req_room {D : Nat} {g : Grm} {x : Rul} (hj : bulkGrm D g + bulkRul D x ≤ 1048576) {n : Nat} (hn : n ≤ x.right.length) {X : Sym} (hX : (findS g.symbols (symAt x n)).getD Sym.zero = X) (m : Int) (j : Nat) : (reqT g x n ++ dueP X.attrs m n j).length ≤ 412317384704 := by
  have h1 := reqT_le D g x n
  have h2 := dueP_len X.attrs m n j
  have h3 := attrs_le (D := D) g (symAt x n)
  have h4 := req_mul hj
  have h5 : (n + 1) * (bulkGrm D g).toNat ≤ (x.right.length + 1) * (bulkGrm D g).toNat := Nat.mul_le_mul_right _ (by omega)
  rw [hX] at h3
  rw [Nat.succ_mul] at h5
  rw [List.length_append]
  omega
theorem reqO_len {D : Nat} {g : Grm} {x : Rul} (hj : bulkGrm D g + bulkRul D x ≤ 1048576) : (reqO g x).length ≤ 412317384704 := Nat.le_trans (reqT_le D g x (x.right.length + 1)) (req_mul hj)
end Go.Proofs.Ythifibjkgiggfaa
