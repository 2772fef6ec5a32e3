/- Comparisons of slices of texts: the reference's. Conditions: the slices' lengths fit an int. -/
import Derived.Test.YthifibjkgiggfaaStrs
namespace Go.Proofs.Ythifibjkgiggfaa
set_option maxRecDepth 100000
open Go.RowKit

theorem s_l3Texts (A A' : Option Addr) (n n' c c' : Nat) (xs ys : List ByteArray) (B B' : Nat) (w : World) (hr : Rd w B A n (xs.map Value.string)) (hr' : Rd w B' A' n' (ys.map Value.string)) (hm : n ≤ 9223372036854775807) (hm' : n' ≤ 9223372036854775807) :
    Calls Try.prog 149 #[.slice A n c, .slice A' n' c'] w fun e w' => e = .returned (.bool (decide (xs = ys))) ∧ Below w.heap.size w w' := by
  by_cases hnn : n = n'
  · subst hnn
    go_enter Try.func149, Try.ntmps149
    go_wp2
    go_loopw [5] (fun i wr => ∃ k m : Nat, k ≤ n ∧ i = .int .i64 k ∧ Hid (xs.take k = ys.take k) ∧ wr = w.drewN m) (fun i _ => n - (intOf i).toNat)
    case atStart => exact ⟨0, 0, by omega, rfl, hide rfl, rfl⟩
    case round =>
      obtain ⟨k, m, hk, rfl, Hno, rfl⟩ := hrel
      by_cases hlt : k < n
      · obtain ⟨b, off, x, hA, hb, hx, hc⟩ := hr.get hlt
        obtain ⟨b', off', y, hA', hb', hy, hc'⟩ := hr'.get hlt
        subst hA hA'
        have Hx := hide hx
        have Hy := hide hy
        clear hx hy
        by_cases he : x = y
        · have he1 : (x.toList != y.toList) = false := by rw [he]; simp
          go_wp2
          go_quiet (fail)
          go_wp2
          exact ⟨⟨k + 1, _, by omega, by go_num, hide (by rw [take_snoc Hx.out, take_snoc Hy.out, Hno.out, he]), rfl⟩, by simp [intOf]; omega⟩
        · have he2 : (x.toList == y.toList) = false := by rw [bytes_beq]; simpa using he
          have he1 : (x.toList != y.toList) = true := by rw [bne_iff_ne]; intro h; exact he (by simpa [bytes_beq] using beq_iff_eq.2 h)
          have hxy : decide (xs = ys) = false := by
            rw [decide_eq_false_iff_not]
            rintro rfl
            have h1 := Hx.out
            rw [Hy.out] at h1
            injection h1 with h1
            exact he h1.symm
          have Hxy := hide hxy
          clear hxy
          go_wp2
          go_quiet (fail)
          go_wp2
          go_ret
          exact ⟨ret_bool Hxy.out.symm, below_drewN (below_drewN (Below.refl _ _) _) _⟩
      · have hxy : decide (xs = ys) = true := by
          rw [decide_eq_true_eq]
          have h := Hno.out
          rw [List.take_of_length_le (by have := hr.len; omega), List.take_of_length_le (by have := hr'.len; omega)] at h
          exact h
        have Hxy := hide hxy
        clear hxy
        go_wp2
        go_ret
        exact ⟨ret_bool Hxy.out.symm, below_drewN (Below.refl _ _) _⟩
  · have hne : ((n : Int) != (n' : Int)) = true := by rw [bne_iff_ne]; omega
    have hxy : decide (xs = ys) = false := by rw [decide_eq_false_iff_not]; rintro rfl; exact hnn (hr.len.symm.trans hr'.len)
    have Hxy := hide hxy
    clear hxy
    go_enter Try.func149, Try.ntmps149
    go_wp2
    go_ret
    exact ⟨ret_bool Hxy.out.symm, Below.refl _ _⟩
theorem i_EqualS (A A' : Option Addr) (n n' c c' : Nat) (xs ys : List ByteArray) (B B' : Nat) (w : World) (hr : Rd w B A n (xs.map Value.string)) (hr' : Rd w B' A' n' (ys.map Value.string)) (hm : n ≤ 9223372036854775807) (hm' : n' ≤ 9223372036854775807) :
    Calls Try.prog 152 #[.slice A n c, .slice A' n' c'] w fun e w' => e = .returned (.bool (decide (xs = ys))) ∧ Below w.heap.size w w' := by
  by_cases hnn : n = n'
  · subst hnn
    go_enter Try.func152, Try.ntmps152
    go_wp2
    go_loopw [13] (fun i wr => ∃ k m : Nat, k ≤ n ∧ i = .int .i64 k ∧ Hid (xs.take k = ys.take k) ∧ wr = w.drewN m) (fun i _ => n - (intOf i).toNat)
    case atStart => exact ⟨0, 0, by omega, rfl, hide rfl, rfl⟩
    case round =>
      obtain ⟨k, m, hk, rfl, Hno, rfl⟩ := hrel
      by_cases hlt : k < n
      · obtain ⟨b, off, x, hA, hb, hx, hc⟩ := hr.get hlt
        obtain ⟨b', off', y, hA', hb', hy, hc'⟩ := hr'.get hlt
        subst hA hA'
        have Hx := hide hx
        have Hy := hide hy
        clear hx hy
        by_cases he : x = y
        · have he1 : (x.toList != y.toList) = false := by rw [he]; simp
          go_wp2
          go_quiet (fail)
          go_wp2
          exact ⟨⟨k + 1, _, by omega, by go_num, hide (by rw [take_snoc Hx.out, take_snoc Hy.out, Hno.out, he]), rfl⟩, by simp [intOf]; omega⟩
        · have he2 : (x.toList == y.toList) = false := by rw [bytes_beq]; simpa using he
          have he1 : (x.toList != y.toList) = true := by rw [bne_iff_ne]; intro h; exact he (by simpa [bytes_beq] using beq_iff_eq.2 h)
          have hxy : decide (xs = ys) = false := by
            rw [decide_eq_false_iff_not]
            rintro rfl
            have h1 := Hx.out
            rw [Hy.out] at h1
            injection h1 with h1
            exact he h1.symm
          have Hxy := hide hxy
          clear hxy
          go_wp2
          go_quiet (fail)
          go_wp2
          go_ret
          exact ⟨ret_bool Hxy.out.symm, below_drewN (below_drewN (Below.refl _ _) _) _⟩
      · have hxy : decide (xs = ys) = true := by
          rw [decide_eq_true_eq]
          have h := Hno.out
          rw [List.take_of_length_le (by have := hr.len; omega), List.take_of_length_le (by have := hr'.len; omega)] at h
          exact h
        have Hxy := hide hxy
        clear hxy
        go_wp2
        go_ret
        exact ⟨ret_bool Hxy.out.symm, below_drewN (Below.refl _ _) _⟩
  · have hne : ((n : Int) != (n' : Int)) = true := by rw [bne_iff_ne]; omega
    have hxy : decide (xs = ys) = false := by rw [decide_eq_false_iff_not]; rintro rfl; exact hnn (hr.len.symm.trans hr'.len)
    have Hxy := hide hxy
    clear hxy
    go_enter Try.func152, Try.ntmps152
    go_wp2
    go_ret
    exact ⟨ret_bool Hxy.out.symm, Below.refl _ _⟩
end Go.Proofs.Ythifibjkgiggfaa
