/- Occurrences overwritten by marks, and held against them. Conditions: numbers from 1 to 2^40. -/
import Derived.Test.YtigdciegnpejoaaDoorMarkS
import Derived.Test.YtigdciegnpejoaaDoorMark
import Derived.Test.YtigdciegnpejoaaDoorRul
namespace Go.Proofs.YtigdciegnpejoaaDoor
set_option maxRecDepth 100000
open Go.RowKit Go.WideShapes
set_option linter.unusedVariables false

/-- A list written anew, each element by the numbers from its own on. -/
def mkL {α : Type} (mk : Nat → α → α) (ct : α → Nat) : Nat → List α → List α
  | _, [] => []
  | k, x :: r => mk k x :: mkL mk ct (k + ct x) r
def ctL {α : Type} (ct : α → Nat) : List α → Nat
  | [] => 0
  | x :: r => ct x + ctL ct r
theorem mkL_len {α : Type} {mk : Nat → α → α} {ct : α → Nat} : ∀ (xs : List α) (k : Nat), (mkL mk ct k xs).length = xs.length
  | [], _ => rfl
  | x :: r, k => by simp only [mkL, List.length_cons, mkL_len r]
theorem mkL_append {α : Type} {mk : Nat → α → α} {ct : α → Nat} : ∀ (xs ys : List α) (k : Nat), mkL mk ct k (xs ++ ys) = mkL mk ct k xs ++ mkL mk ct (k + ctL ct xs) ys
  | [], _, _ => rfl
  | x :: r, ys, k => by simp only [List.cons_append, mkL, ctL, mkL_append r, Nat.add_assoc]
theorem ctL_append {α : Type} {ct : α → Nat} : ∀ (xs ys : List α), ctL ct (xs ++ ys) = ctL ct xs + ctL ct ys
  | [], ys => by simp [ctL]
  | x :: r, ys => by simp only [List.cons_append, ctL, ctL_append r, Nat.add_assoc]
theorem ctL_take {α : Type} {ct : α → Nat} {xs : List α} {j : Nat} {x : α} (h : xs[j]? = some x) : ctL ct (xs.take (j + 1)) = ctL ct (xs.take j) + ct x := by rw [take_snoc h, ctL_append]; simp [ctL]
theorem mkL_take {α : Type} {mk : Nat → α → α} {ct : α → Nat} {xs : List α} {k j : Nat} {x : α} (h : xs[j]? = some x) : mkL mk ct k (xs.take (j + 1)) = mkL mk ct k (xs.take j) ++ [mk (k + ctL ct (xs.take j)) x] := by rw [take_snoc h, mkL_append]; rfl
theorem ctL_take_le {α : Type} {ct : α → Nat} (xs : List α) (j : Nat) : ctL ct (xs.take j) ≤ ctL ct xs := by
  have := ctL_append (ct := ct) (xs.take j) (xs.drop j)
  rw [List.take_append_drop] at this
  omega
/-- The list half written. -/
theorem half_at {α : Type} {mk : Nat → α → α} {ct : α → Nat} {xs : List α} {k j : Nat} {x : α} (h : xs[j]? = some x) : (mkL mk ct k (xs.take j) ++ xs.drop j)[j]? = some x := by
  have hj := (List.getElem?_eq_some_iff.1 h).1
  have hl : (mkL mk ct k (xs.take j)).length = j := by rw [mkL_len]; simp; omega
  rw [List.getElem?_append_right (by omega), hl, Nat.sub_self, List.getElem?_drop, Nat.add_zero, h]
theorem half_next {α : Type} {mk : Nat → α → α} {ct : α → Nat} {xs : List α} {k j : Nat} {x : α} (h : xs[j]? = some x) :
    (mkL mk ct k (xs.take j) ++ xs.drop j).take j ++ mk (k + ctL ct (xs.take j)) x :: (mkL mk ct k (xs.take j) ++ xs.drop j).drop (j + 1) = mkL mk ct k (xs.take (j + 1)) ++ xs.drop (j + 1) := by
  have hj := (List.getElem?_eq_some_iff.1 h).1
  have hl : (mkL mk ct k (xs.take j)).length = j := by rw [mkL_len]; simp; omega
  rw [mkL_take h]
  generalize mkL mk ct k (xs.take j) = m at hl
  subst hl
  simp
def mk_Occ (k : Nat) (_x : Occ) : Occ := ⟨(k : Int), mkT (k + 1)⟩
def ct_Occ (_x : Occ) : Nat := 2
theorem PutG.apart {w W W' : World} {b o : Nat} {X G : List Nat} {vs : List Value} (h : PutG w b o X vs W) (ha : Apart G W W') (hb : b ∉ G) (hG : ∀ k ∈ G, k ∈ X) : PutG w b o X vs W' := by
  obtain ⟨⟨bs, bs', t, h1, h2, h3, h4, h5⟩, hf, hs, e1, e2, e3⟩ := h
  exact ⟨⟨bs, bs', t, h1, (ha.block b (blk_lt h2) hb).trans h2, h3, h4, h5⟩, fun k hk hkb hX => (ha.block k (by omega) (fun hm => hX (hG k hm))).trans (hf k hk hkb hX), Nat.le_trans hs ha.size, ha.os.trans e1, ha.tape.trans e2, ha.output.trans e3⟩
theorem half_len {α : Type} {mk : Nat → α → α} {ct : α → Nat} {xs : List α} {k j : Nat} (h : j ≤ xs.length) : (mkL mk ct k (xs.take j) ++ xs.drop j).length = xs.length := by
  rw [List.length_append, mkL_len, List.length_take, List.length_drop]
  omega
theorem OccR.mk (D : Nat) (W : World) (k : Nat) (x : Occ) (hk : k + 1 ≤ 1099511627776) : OccR D W (mk_Occ k x) [.int .i64 (k : Int), .string (mkT (k + 1))] [] :=
  ⟨rfl, ⟨by simp [mk_Occ, Lit.wf, IntKind.min, IntKind.max, IntKind.signed, IntKind.bits]; omega, mkT_small hk⟩, rfl, rfl, rfl⟩
theorem mkL_at {α : Type} {mk : Nat → α → α} {ct : α → Nat} {xs : List α} {k j : Nat} {x : α} (h : xs[j]? = some x) : (mkL mk ct k xs)[j]? = some (mk (k + ctL ct (xs.take j)) x) := by
  have hj := (List.getElem?_eq_some_iff.1 h).1
  have h1 := mkL_append (mk := mk) (ct := ct) (xs.take j) (xs.drop j) k
  rw [List.take_append_drop] at h1
  have hl : (mkL mk ct k (xs.take j)).length = j := by rw [mkL_len]; simp; omega
  have hd : xs.drop j = x :: xs.drop (j + 1) := by
    rw [List.drop_eq_getElem_cons hj]
    rw [List.getElem?_eq_getElem hj] at h
    rw [Option.some.inj h]
  rw [h1, List.getElem?_append_right (by omega), hl, Nat.sub_self, hd]
  rfl
end Go.Proofs.YtigdciegnpejoaaDoor
