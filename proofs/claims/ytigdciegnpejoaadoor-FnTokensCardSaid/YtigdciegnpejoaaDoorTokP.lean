/- Tokens of a text: what the token at a place is, what the tokens are. Plain: no program. -/
import Derived.Test.YtigdciegnpejoaaDoorNum
import Derived.Test.YtigdciegnpejoaaDoorNames
import Derived.Test.YtigdciegnpejoaaDoorTkn
namespace Go.Proofs.YtigdciegnpejoaaDoor
set_option maxRecDepth 100000
open Go.RowKit
set_option linter.unusedVariables false

/-- A token's number: the text read within the wide range, then cut to the token's range. -/
theorem numIn_tok (s : List UInt8) : numIn s 0 1000000 = match numIn s (-999999999999) 999999999999 with | some n => if n < 0 ∨ 1000000 < n then none else some n | none => none := by
  cases h : numIn s (-999999999999) 999999999999 with
  | none =>
    refine numIn_none fun n e g1 g2 => ?_
    have := numIn_iff.2 ⟨e, show (-999999999999 : Int) ≤ n by omega, show n ≤ 999999999999 by omega⟩
    rw [h] at this
    cases this
  | some n =>
    obtain ⟨e, g1, g2⟩ := numIn_iff.1 h
    by_cases hn : n < 0 ∨ 1000000 < n
    · simp only [hn, if_true]
      refine numIn_none fun m e2 k1 k2 => ?_
      have := numIn_iff.2 ⟨e2, show (-999999999999 : Int) ≤ m by omega, show m ≤ 999999999999 by omega⟩
      rw [h] at this
      injection this with this
      omega
    · simp only [hn, if_false]
      exact numIn_iff.2 ⟨e, by omega, by omega⟩
/-- How far a test holds from a place on. -/
def spanL (p : UInt8 → Bool) (l : List UInt8) : Nat := (l.takeWhile p).length
theorem spanL_le (p : UInt8 → Bool) (l : List UInt8) : spanL p l ≤ l.length := by
  unfold spanL
  exact (List.takeWhile_prefix p).length_le
/-- A place reached by a loop that stops there is the span's end. -/
theorem spanL_at {p : UInt8 → Bool} : ∀ {l : List UInt8} {k : Nat}, (∀ j b, j < k → l[j]? = some b → p b = true) → k ≤ l.length → (∀ b, l[k]? = some b → p b = false) → spanL p l = k
  | [], k, _, hk, _ => by simp at hk; subst hk; rfl
  | a :: r, 0, _, _, h => by
    have := h a rfl
    simp [spanL, List.takeWhile, this]
  | a :: r, k + 1, h, hk, h' => by
    have ha := h 0 a (by omega) rfl
    have ih := spanL_at (p := p) (l := r) (k := k) (fun j b hj hb => h (j + 1) b (by omega) hb) (by simpa using hk) (fun b hb => h' b hb)
    simp only [spanL] at ih ⊢
    simp [List.takeWhile, ha, ih]
def symB : List UInt8 := [40, 41, 123, 125, 44, 46, 36, 43, 45, 42, 60, 124, 38, 92]
/-- The token at the head of a text that lies at a place, and its length. -/
def tokN (l : List UInt8) (at_ : Nat) : Option (Tkn × Nat) :=
  match l with
  | [] => none
  | b :: r =>
    if low b then (let k := spanL ldg l; if 8 < k then none else some (⟨1, 0, at_, ⟨(l.take k).toArray⟩⟩, k))
    else if dig b then (let k := spanL dig l; match numIn (l.take k) 0 1000000 with | some n => some (⟨2, n, at_, ⟨#[]⟩⟩, k) | none => none)
    else if b = 61 then (if r.head? = some 61 then some (⟨3, 0, at_, ⟨#[61, 61]⟩⟩, 2) else none)
    else if symB.contains b then some (⟨3, 0, at_, ⟨#[b]⟩⟩, 1) else none
end Go.Proofs.YtigdciegnpejoaaDoor
