/- Decimal numerals: the number of a text in a range; what the reference's reader and the program's reader find. Plain: no program. -/
import Derived.Lib.ItoaLen
import Derived.Lib.AtoiTie
namespace Go.Proofs.YtilndebjnibgjaaDoor
set_option maxRecDepth 100000
open Go.Lib

theorem decFrom_append : ∀ (l r : List UInt8) (acc : Nat), decFrom acc (l ++ r) = (decFrom acc l).bind fun m => decFrom m r
  | [], _, _ => rfl
  | b :: l, r, acc => by
    simp only [List.cons_append, decFrom]
    cases digitVal b with
    | none => rfl
    | some d => exact decFrom_append l r _
theorem digitVal_dig {d : Nat} (h : d < 10) : digitVal (UInt8.ofNat (48 + d)) = some d := by
  have e : (UInt8.ofNat (48 + d)).toNat = 48 + d := by simp [UInt8.toNat_ofNat']; omega
  unfold digitVal
  rw [e, if_pos (by omega)]
  congr 1
  omega
theorem decFrom_decDigits (u : Nat) : ∀ acc, decFrom acc (decDigits u) = some (acc * 10 ^ nDigits u + u) := by
  induction u using Nat.strongRecOn with
  | _ u ih =>
    intro acc
    by_cases h : u < 10
    · rw [decDigits, dif_pos h, nDigits_small h]
      simp only [decFrom, digitVal_dig h, Nat.pow_one]
    · rw [decDigits, dif_neg h, nDigits_big h, decFrom_append, ih (u / 10) (by omega)]
      have hm : u % 10 < 10 := Nat.mod_lt _ (by omega)
      simp only [Option.bind_some, decFrom, digitVal_dig hm, Nat.pow_succ]
      congr 1
      have e : acc * (10 ^ nDigits (u / 10) * 10) = acc * 10 ^ nDigits (u / 10) * 10 := (Nat.mul_assoc _ _ _).symm
      rw [e]
      omega
theorem decDigits_ne (u : Nat) : decDigits u ≠ [] := fun h => by
  have := decDigits_length u
  rw [h] at this
  have := nDigits_pos u
  simp at *
  omega
theorem decNat_decDigits (u : Nat) : decNat (decDigits u) = some u := by
  unfold decNat
  rw [if_neg (by simpa using decDigits_ne u), decFrom_decDigits]
  simp
theorem decDigits_head {u : Nat} {b : UInt8} {r : List UInt8} (h : decDigits u = b :: r) : 48 ≤ b.toNat ∧ b.toNat ≤ 57 := by
  obtain ⟨d, hd⟩ := digit_of_decFrom (decDigits u) 0 _ (decFrom_decDigits u 0) 0 b (by rw [h]; rfl)
  have := digitVal_eq hd
  omega
theorem atoi_itoa (n : Int) : atoi (itoa n) = some n := by
  unfold itoa
  by_cases hn : n < 0
  · rw [if_pos hn]
    simp only [atoi, beq_self_eq_true, if_true, decNat_decDigits, Option.map_some]
    congr 1
    omega
  · rw [if_neg hn]
    cases hd : decDigits n.toNat with
    | nil => exact absurd hd (decDigits_ne _)
    | cons b r =>
      have hb := decDigits_head hd
      have h45 : (b == 45) = false := by rw [beq_eq_false_iff_ne]; rintro rfl; simp at hb
      have h43 : (b == 43) = false := by rw [beq_eq_false_iff_ne]; rintro rfl; simp at hb
      simp only [atoi, h45, h43, Bool.false_eq_true, if_false]
      rw [← hd, decNat_decDigits, Option.map_some]
      congr 1
      omega
/-- The number from lo to hi whose numeral a text is. -/
def numIn (s : List UInt8) (lo hi : Int) : Option Int := match atoi s with
  | some n => if lo ≤ n ∧ n ≤ hi ∧ itoa n = s then some n else none
  | none => none
theorem numIn_iff {s : List UInt8} {lo hi n : Int} : numIn s lo hi = some n ↔ itoa n = s ∧ lo ≤ n ∧ n ≤ hi := by
  constructor
  · intro h
    unfold numIn at h
    split at h
    · split at h
      · rename_i hc
        injection h with h
        subst h
        exact ⟨hc.2.2, hc.1, hc.2.1⟩
      · cases h
    · cases h
  · rintro ⟨rfl, h1, h2⟩
    unfold numIn
    rw [atoi_itoa]
    exact if_pos ⟨h1, h2, rfl⟩
theorem numIn_none {s : List UInt8} {lo hi : Int} (h : ∀ n, itoa n = s → lo ≤ n → n ≤ hi → False) : numIn s lo hi = none := by
  cases hn : numIn s lo hi with
  | none => rfl
  | some n =>
    obtain ⟨h1, h2, h3⟩ := numIn_iff.1 hn
    exact (h n h1 h2 h3).elim
theorem nDigits_le_of_lt : ∀ (k u : Nat), 1 ≤ k → u < 10 ^ k → nDigits u ≤ k
  | 0, _, h, _ => by omega
  | k + 1, u, _, h => by
    by_cases hu : u < 10
    · rw [nDigits_small hu]; omega
    · rw [nDigits_big hu]
      rw [Nat.pow_succ] at h
      have hk : 1 ≤ k := by
        rcases Nat.eq_zero_or_pos k with e | e
        · subst e; simp at h; omega
        · exact e
      have := nDigits_le_of_lt k (u / 10) hk (by omega)
      omega
theorem itoa_len {n : Int} {k : Nat} (hk : 1 ≤ k) (h1 : -((10 : Int) ^ k) < n) (h2 : n < (10 : Int) ^ k) : (itoa n).length ≤ k + 1 := by
  have e : ((10 ^ k : Nat) : Int) = (10 : Int) ^ k := by simp
  unfold itoa
  split
  · rw [List.length_cons, decDigits_length]
    have := nDigits_le_of_lt k n.natAbs hk (by omega)
    omega
  · rw [decDigits_length]
    have := nDigits_le_of_lt k n.toNat hk (by omega)
    omega
/-- The program's reader: by how Atoi ends. -/
theorem numIn_ok {s : List UInt8} {lo hi v : Int} (h1 : -1000000000000 < lo) (h2 : hi < 1000000000000) (h : atoiAll s = .ok v) : numIn s lo hi = if lo ≤ v ∧ v ≤ hi ∧ itoa v = s then some v else none := by
  split
  · rename_i hc
    exact numIn_iff.2 ⟨hc.2.2, hc.1, hc.2.1⟩
  · rename_i hc
    refine numIn_none fun n e g1 g2 => hc ?_
    have hl := itoa_len (n := n) (k := 12) (by omega) (by simp; omega) (by simp; omega)
    have ha := atoiAll_short (itoa n) (by omega)
    rw [atoi_itoa, e, h] at ha
    simp only [NumEnd.ofOption] at ha
    injection ha with ha
    subst ha
    exact ⟨g1, g2, e⟩
theorem numIn_bad {s : List UInt8} {lo hi : Int} (h1 : -1000000000000 < lo) (h2 : hi < 1000000000000) (h : ∀ v, atoiAll s ≠ .ok v) : numIn s lo hi = none := by
  refine numIn_none fun n e g1 g2 => h n ?_
  have hl := itoa_len (n := n) (k := 12) (by omega) (by simp; omega) (by simp; omega)
  have ha := atoiAll_short (itoa n) (by omega)
  rw [atoi_itoa, e] at ha
  exact ha
/-- The digits behind the sign. -/
def unsign (s : List UInt8) : List UInt8 := match s with
  | 45 :: r => r
  | _ => s
def signed? (s : List UInt8) : Bool := match s with
  | 45 :: _ => true
  | _ => false
/-- The reference's reader. -/
def readN (s : List UInt8) (most : Nat) : Option Int :=
  if (unsign s).length < 1 ∨ most < (unsign s).length then none else match decFrom 0 (unsign s) with
  | none => none
  | some m => if itoa (if signed? s then -(m : Int) else (m : Int)) = s then some (if signed? s then -(m : Int) else (m : Int)) else none
theorem itoa_parts (n : Int) : unsign (itoa n) = decDigits n.natAbs ∧ signed? (itoa n) = decide (n < 0) := by
  unfold itoa
  by_cases hn : n < 0
  · rw [if_pos hn]
    exact ⟨rfl, by simp [signed?, hn]⟩
  · rw [if_neg hn]
    have e : n.toNat = n.natAbs := by omega
    rw [e]
    cases hd : decDigits n.natAbs with
    | nil => exact absurd hd (decDigits_ne _)
    | cons b r =>
      have hb := decDigits_head hd
      have h45 : b ≠ 45 := by rintro rfl; simp at hb
      refine ⟨?_, ?_⟩
      · unfold unsign
        split
        · rename_i r' h
          injection h with h _
          exact absurd h h45
        · rfl
      · unfold signed?
        split
        · rename_i h
          injection h with h _
          exact absurd h h45
        · simp [hn]
theorem readN_eq (s : List UInt8) (most : Nat) (hm : 1 ≤ most) : readN s most = numIn s (-((10 : Int) ^ most) + 1) ((10 : Int) ^ most - 1) := by
  have e : ((10 ^ most : Nat) : Int) = (10 : Int) ^ most := by simp
  cases hr : readN s most with
  | some n =>
    symm
    rw [numIn_iff]
    unfold readN at hr
    by_cases hl : (unsign s).length < 1 ∨ most < (unsign s).length
    · rw [if_pos hl] at hr
      cases hr
    rw [if_neg hl] at hr
    cases hd : decFrom 0 (unsign s) with
    | none => rw [hd] at hr; cases hr
    | some m =>
      rw [hd] at hr
      have hlt := decFrom_lt _ 0 m hd
      have hp : 10 ^ (unsign s).length ≤ 10 ^ most := Nat.pow_le_pow_right (by omega) (by omega)
      have hr2 : (if itoa (if signed? s then -(m : Int) else (m : Int)) = s then some (if signed? s then -(m : Int) else (m : Int)) else none) = some n := hr
      generalize hv : (if signed? s then -(m : Int) else (m : Int)) = v at hr2
      by_cases he : itoa v = s
      · rw [if_pos he] at hr2
        injection hr2 with hr2
        subst hr2
        refine ⟨he, ?_, ?_⟩ <;> (rw [← hv]; split <;> omega)
      · rw [if_neg he] at hr2
        cases hr2
  | none =>
    symm
    refine numIn_none fun n hs g1 g2 => ?_
    subst hs
    obtain ⟨h1, h2⟩ := itoa_parts n
    have hlen : nDigits n.natAbs ≤ most := nDigits_le_of_lt most _ hm (by omega)
    have hpos := nDigits_pos n.natAbs
    unfold readN at hr
    rw [h1, h2, decDigits_length, if_neg (by omega), decFrom_decDigits] at hr
    simp only [Nat.zero_mul, Nat.zero_add] at hr
    have hn : (if decide (n < 0) = true then -(n.natAbs : Int) else (n.natAbs : Int)) = n := by
      split <;> rename_i h <;> simp at h <;> omega
    rw [hn, if_pos rfl] at hr
    cases hr
end Go.Proofs.YtilndebjnibgjaaDoor
