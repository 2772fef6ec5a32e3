/- The plain laws of values: coercing twice is coercing once; operators answer values of their types and the symmetric ones are symmetric; sets split. -/
import Derived.Test.YtbijjddkfeficaaVals
import Derived.Test.YtbijjddkfeficaaDraw
namespace Go.Proofs.Ytbijjddkfeficaa
open Go.RowKit

theorem sat_idem (v : Int) : sat (sat v) = sat v := by unfold sat; (repeat' split) <;> omega
theorem co_idem (v k : Int) : co (co v k) k = co v k := by
  unfold co
  by_cases h1 : k = 1
  · simp only [h1, if_true]; exact sat_idem v
  rw [if_neg h1, if_neg h1]
  by_cases h2 : k = 2
  · simp only [h2, if_true]; rw [bits_4095, bits_4095]; omega
  rw [if_neg h2, if_neg h2]
  by_cases h3 : k = 3
  · simp only [h3, if_true]; split <;> simp
  rw [if_neg h3, if_neg h3]
  by_cases h4 : k = 4 ∧ 0 ≤ v ∧ v ≤ 999
  · rw [if_pos h4, if_pos h4]
  · rw [if_neg h4]; split <;> rfl
theorem co_out {v k : Int} (h : k < 1 ∨ 4 < k) : co v k = 0 := by
  unfold co
  rw [if_neg (by omega), if_neg (by omega), if_neg (by omega), if_neg (by omega)]
theorem ofT_out {v k : Int} (h : k < 1 ∨ 4 < k) : ofT v k = false := by unfold ofT; simp; omega
theorem ofT_co {v k : Int} (h : 1 ≤ k ∧ k ≤ 4) : ofT (co v k) k = true := by unfold ofT; simp [co_idem]; omega
theorem ofT_eq {v k : Int} (h : 1 ≤ k ∧ k ≤ 4) : ofT v k = (co v k == v) := by
  unfold ofT
  rw [Bool.eq_iff_iff]
  simp
  omega
theorem co_sat (v : Int) : co v 1 = sat v := rfl

theorem walk_coerced (A : Option Addr) (n c : Nat) (zs : List Int) (w : World) (hr : Rd w w.heap.size A n (zs.map (Value.int .u8))) (hz : ∀ z ∈ zs, (Lit.int .u8 z).wf = true) (hm : n ≤ 9223372036854775807) :
    Calls Try.prog 9 #[.slice A n c] w fun e w' => e = .returned (.bool true) ∧ Below w.heap.size w w' := by
  by_cases hn : n ≤ 1048576
  · go_enter Try.func9, Try.ntmps9
    go_wp2_with (first | (go_at_call 22; go_in) | fail)
    refine (s_DrawCoerce A n c zs w hr hz hn).mono ?_
    rintro e w1 ⟨v, k, rfl, hb⟩
    by_cases hk : 1 ≤ k ∧ k ≤ 4
    · have h1 := co_idem v k
      have h2 := ofT_co (v := v) hk
      have h3 := ofT_eq (v := v) hk
      by_cases hk1 : k = 1
      · subst hk1
        have h4 := co_sat v
        rw [h4] at h1 h2 h3
        go_wp2_with (first
      | (go_at_call 17; refine (i_Coerce _ _ _).mono ?_; rintro e w' ⟨rfl, rfl⟩)
      | (go_at_call 16; refine (s_Coerce _ _ _).mono ?_; rintro e w' ⟨rfl, rfl⟩)
      | (go_at_call 13; refine (i_Saturate _ _).mono ?_; rintro e w' ⟨rfl, rfl⟩)
      | (go_at_call 19; refine (i_IsOfType _ _ _).mono ?_; rintro e w' ⟨rfl, rfl⟩))
        go_ret
        exact ⟨rfl, hb⟩
      · have hk2 : (k != 1) = true := by simpa using hk1
        go_wp2_with (first
      | (go_at_call 17; refine (i_Coerce _ _ _).mono ?_; rintro e w' ⟨rfl, rfl⟩)
      | (go_at_call 16; refine (s_Coerce _ _ _).mono ?_; rintro e w' ⟨rfl, rfl⟩)
      | (go_at_call 13; refine (i_Saturate _ _).mono ?_; rintro e w' ⟨rfl, rfl⟩)
      | (go_at_call 19; refine (i_IsOfType _ _ _).mono ?_; rintro e w' ⟨rfl, rfl⟩))
        go_ret
        exact ⟨rfl, hb⟩
    · have hko : k < 1 ∨ 4 < k := by omega
      have h2 := co_out (v := v) hko
      have h1 := co_out (v := 0) hko
      have h3 := ofT_out (v := v) hko
      rcases hko with hk | hk
      all_goals
        go_wp2_with (first
      | (go_at_call 17; refine (i_Coerce _ _ _).mono ?_; rintro e w' ⟨rfl, rfl⟩)
      | (go_at_call 16; refine (s_Coerce _ _ _).mono ?_; rintro e w' ⟨rfl, rfl⟩)
      | (go_at_call 13; refine (i_Saturate _ _).mono ?_; rintro e w' ⟨rfl, rfl⟩)
      | (go_at_call 19; refine (i_IsOfType _ _ _).mono ?_; rintro e w' ⟨rfl, rfl⟩))
        go_ret
        exact ⟨rfl, hb⟩
  · go_enter Try.func9, Try.ntmps9
    go_wp2
    go_ret
    exact ⟨rfl, Below.refl _ _⟩
end Go.Proofs.Ytbijjddkfeficaa
