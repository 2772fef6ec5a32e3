/- Tokens: all tokens of a text, read from its start. Plain: no program. -/
import Derived.Test.YtigdciegnpejoaaDoorTokI
namespace Go.Proofs.YtigdciegnpejoaaDoor
set_option maxRecDepth 100000
open Go.RowKit
set_option linter.unusedVariables false

/-- A text whose first byte is a digit is no negative number. -/
theorem numIn_dig {l : List UInt8} {lo hi n : Int} (h : numIn l lo hi = some n) (hb : ∀ b, l[0]? = some b → dig b = true) : ¬ n < 0 := by
  intro h0
  obtain ⟨e, _, _⟩ := numIn_iff.1 h
  have e2 : Lib.itoa n = 45 :: Lib.decDigits n.natAbs := by unfold Lib.itoa; rw [if_pos h0]
  have := hb 45 (by rw [← e, e2]; rfl)
  revert this
  decide
theorem span_pos {p : UInt8 → Bool} {b : UInt8} {r : List UInt8} (h : p b = true) : 1 ≤ spanL p (b :: r) := by
  unfold spanL
  simp [List.takeWhile, h]
theorem low_ldg {b : UInt8} (h : low b = true) : ldg b = true := by unfold ldg; rw [h]; rfl
theorem tokN_len {l : List UInt8} {at_ k : Nat} {t : Tkn} (h : tokN l at_ = some (t, k)) : 1 ≤ k ∧ k ≤ l.length := by
  cases l with
  | nil => cases h
  | cons b r =>
    unfold tokN at h
    simp only at h
    split at h
    · rename_i hb
      split at h
      · cases h
      · injection h with h
        injection h with _ h
        subst h
        exact ⟨span_pos (low_ldg hb), spanL_le _ _⟩
    · split at h
      · rename_i hb
        split at h
        · injection h with h
          injection h with _ h
          subst h
          exact ⟨span_pos hb, spanL_le _ _⟩
        · cases h
      · split at h
        · split at h
          · rename_i hb
            injection h with h
            injection h with _ h
            subst h
            cases r with
            | nil => cases hb
            | cons c r => exact ⟨by omega, by simp⟩
          · cases h
        · split at h
          · injection h with h
            injection h with _ h
            subst h
            exact ⟨by omega, by simp⟩
          · cases h
/-- A token that was read fits. -/
theorem tokN_ok {l : List UInt8} {at_ k : Nat} {t : Tkn} (ha : at_ ≤ 1048576) (h : tokN l at_ = some (t, k)) : t.ok ∧ t.text.size ≤ 8 := by
  have e1 : IntKind.i64.min = -9223372036854775808 := rfl
  have e2 : IntKind.i64.max = 9223372036854775807 := rfl
  have hat : (Lit.int .i64 (at_ : Int)).wf = true := by simp [Lit.wf, e1, e2]; omega
  have h8 : ∀ x : ByteArray, x.size ≤ 8 → x.size ≤ maxLen := fun x hx => by unfold maxLen; omega
  cases l with
  | nil => cases h
  | cons b r =>
    unfold tokN at h
    simp only at h
    split at h
    · split at h
      · cases h
      · rename_i hk
        injection h with h
        injection h with h _
        subst h
        have hs : (⟨(List.take (spanL ldg (b :: r)) (b :: r)).toArray⟩ : ByteArray).size ≤ 8 := by
          show (List.take (spanL ldg (b :: r)) (b :: r)).toArray.size ≤ 8
          rw [List.size_toArray, List.length_take]
          omega
        exact ⟨⟨show (Lit.int .i64 1).wf = true by decide, show (Lit.int .i64 0).wf = true by decide, hat, h8 _ hs⟩, hs⟩
    · split at h
      · split at h
        · rename_i n hn
          injection h with h
          injection h with h _
          subst h
          obtain ⟨_, g1, g2⟩ := numIn_iff.1 hn
          exact ⟨⟨by show (Lit.int .i64 2).wf = true; decide, by show (Lit.int .i64 n).wf = true; simp [Lit.wf, e1, e2]; omega, hat, h8 _ (show (0 : Nat) ≤ 8 by decide)⟩, show (0 : Nat) ≤ 8 by decide⟩
        · cases h
      · split at h
        · split at h
          · injection h with h
            injection h with h _
            subst h
            exact ⟨⟨by show (Lit.int .i64 3).wf = true; decide, by show (Lit.int .i64 0).wf = true; decide, hat, h8 _ (show (2 : Nat) ≤ 8 by decide)⟩, show (2 : Nat) ≤ 8 by decide⟩
          · cases h
        · split at h
          · injection h with h
            injection h with h _
            subst h
            exact ⟨⟨by show (Lit.int .i64 3).wf = true; decide, by show (Lit.int .i64 0).wf = true; decide, hat, h8 _ (by show (1 : Nat) ≤ 8; omega)⟩, by show (1 : Nat) ≤ 8; omega⟩
          · cases h
/-- The tokens from a place on, behind those read; where there is none: nothing and the place. -/
def tokR : Nat → List UInt8 → Nat → List Tkn → List Tkn × Int
  | 0, _, _, out => (out, -1)
  | n + 1, l, a, out => match l with
    | [] => (out, -1)
    | b :: r => if b = 32 then tokR n r (a + 1) out else match tokN (b :: r) a with
      | none => ([], (a : Int))
      | some (t, k) => if out.length = 80 then ([], (a : Int)) else tokR n ((b :: r).drop k) (a + k) (out ++ [t])
def toksOf (s : ByteArray) : List Tkn × Int := if 160 < s.size then ([], 160) else tokR s.size s.data.toList 0 []
theorem tokR_nil (n a : Nat) (out : List Tkn) : tokR n [] a out = (out, -1) := by cases n <;> rfl
theorem tokR_fuel : ∀ (n m : Nat) (l : List UInt8) (a : Nat) (out : List Tkn), l.length ≤ n → l.length ≤ m → tokR n l a out = tokR m l a out
  | n, m, [], a, out, _, _ => by rw [tokR_nil, tokR_nil]
  | 0, _, b :: r, _, _, h, _ => absurd h (by simp)
  | _, 0, b :: r, _, _, _, h => absurd h (by simp)
  | n + 1, m + 1, b :: r, a, out, hn, hm => by
    simp only [List.length_cons] at hn hm
    unfold tokR
    simp only
    split
    · exact tokR_fuel n m r (a + 1) out (by omega) (by omega)
    · split
      · rfl
      · rename_i t k ht
        have hk := tokN_len ht
        simp only [List.length_cons] at hk
        split
        · rfl
        · exact tokR_fuel n m _ _ _ (by simp; omega) (by simp; omega)
/-- One round: a space. -/
theorem tokR_space {s : ByteArray} {a : Nat} (ha : a < s.size) (hb : s[a] = 32) (out : List Tkn) : tokR (s.size - a) (s.data.toList.drop a) a out = tokR (s.size - (a + 1)) (s.data.toList.drop (a + 1)) (a + 1) out := by
  rw [show s.size - a = (s.size - (a + 1)) + 1 by omega, drop_at ha]
  simp [tokR, hb]
theorem tokR_none {s : ByteArray} {a : Nat} (ha : a < s.size) (hb : s[a] ≠ 32) (out : List Tkn) (h : tokN (s.data.toList.drop a) a = none) : tokR (s.size - a) (s.data.toList.drop a) a out = ([], (a : Int)) := by
  rw [drop_at ha] at h
  rw [show s.size - a = (s.size - (a + 1)) + 1 by omega, drop_at ha]
  simp [tokR, hb, h]
theorem tokR_full {s : ByteArray} {a k : Nat} {t : Tkn} (ha : a < s.size) (hb : s[a] ≠ 32) (out : List Tkn) (h : tokN (s.data.toList.drop a) a = some (t, k)) (ho : out.length = 80) : tokR (s.size - a) (s.data.toList.drop a) a out = ([], (a : Int)) := by
  rw [drop_at ha] at h
  rw [show s.size - a = (s.size - (a + 1)) + 1 by omega, drop_at ha]
  simp [tokR, hb, h, ho]
theorem tokR_some {s : ByteArray} {a k : Nat} {t : Tkn} (ha : a < s.size) (hb : s[a] ≠ 32) (out : List Tkn) (h : tokN (s.data.toList.drop a) a = some (t, k)) (ho : out.length ≠ 80) : tokR (s.size - a) (s.data.toList.drop a) a out = tokR (s.size - (a + k)) (s.data.toList.drop (a + k)) (a + k) (out ++ [t]) := by
  have hk := tokN_len h
  have hl : s.data.toList.length = s.size := by simp
  rw [List.length_drop, hl] at hk
  have h' := h
  rw [drop_at ha] at h
  have e : tokR (s.size - a) (s.data.toList.drop a) a out = tokR (s.size - (a + 1)) ((s.data.toList.drop a).drop k) (a + k) (out ++ [t]) := by
    rw [show s.size - a = (s.size - (a + 1)) + 1 by omega, drop_at ha]
    simp [tokR, hb, h, ho]
  rw [e, List.drop_drop]
  exact tokR_fuel _ _ _ _ _ (by rw [List.length_drop, hl]; omega) (by rw [List.length_drop, hl]; omega)
theorem tokR_end {s : ByteArray} (out : List Tkn) : tokR (s.size - s.size) (s.data.toList.drop s.size) s.size out = (out, -1) := by
  rw [Nat.sub_self]
  rfl
end Go.Proofs.YtigdciegnpejoaaDoor
