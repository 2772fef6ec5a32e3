/- What the law on names asks of rows: that they rise, that they are the same texts. Conditions: the rows can be read. -/
import Derived.Test.YtnbkckklodeifaaNmP
import Derived.Test.YtnbkckklodeifaaStrSl
import Derived.Deep.RegionHeld3
import Derived.Deep.QuietTactic
import Derived.BigQuiet
namespace Go.Proofs.Ytnbkckklodeifaa
set_option maxRecDepth 100000
open Go.RowKit Go.Lib
set_option linter.unusedVariables false

theorem idxS_pos {xs : List ByteArray} {s : ByteArray} (h : hasS xs s = true) : 0 ≤ idxS xs s := by
  unfold idxS
  split
  · omega
  · rename_i hn
    rw [List.findIdx?_eq_none_iff] at hn
    unfold hasS at h
    rw [List.any_eq_true] at h
    obtain ⟨x, hx, hx2⟩ := h
    have := hn x hx
    rw [hx2] at this
    cases this
theorem idx_in {xs : List ByteArray} {x : ByteArray} (h : x ∈ xs) : 0 ≤ idxS (sortN xs) x := idxS_pos (sortN_all h)
set_option maxHeartbeats 1000000 in
theorem l_rising (A : Option Addr) (n c : Nat) (xs : List ByteArray) (B : Nat) (w : World) (hr : Rd w B A n (xs.map Value.string)) (hm : n ≤ 9223372036854775807)
    (hup : ∀ (i : Nat) (x y : ByteArray), xs[i]? = some x → xs[i + 1]? = some y → x.data.toList < y.data.toList) :
    Calls Try.prog 7 #[.slice A n c] w fun e w' => e = .returned (.bool true) ∧ Below w.heap.size w w' := by
  have Hup := hide hup
  clear hup
  go_enter Try.func7, Try.ntmps7
  go_wp2_with fail
  go_loopw [3] (fun i wr => ∃ k m : Nat, k ≤ n ∧ i = .int .i64 ((k : Int) + 1) ∧ wr = w.drewN m) (fun i _ => n + 1 - (intOf i).toNat)
  case atStart => exact ⟨0, 0, by omega, rfl, rfl⟩
  case round =>
    obtain ⟨k, m, hk, rfl, rfl⟩ := hrel
    by_cases hlt : k + 1 < n
    · obtain ⟨b, off, y, hA, hb, hy, hc⟩ := hr.get hlt
      obtain ⟨b', off', x, hA', hb', hx, hc'⟩ := hr.get (show k < n by omega)
      subst hA
      injection hA' with hA'
      injection hA' with e1 e2 _
      subst e1 e2
      have hl := Hup.out k x y hx hy
      have hj0 : (0 : Int) ≤ (k : Int) := by omega
      have hj1 : (k : Int) < (n : Int) := by omega
      have hj2 : (k : Int) + 1 < (n : Int) := by omega
      have hj3 : (0 : Int) ≤ (k : Int) + 1 := by omega
      have hj4 : ((k : Int) + 1).toNat = k + 1 := by omega
      have hes : (k : Int) + 1 - 1 = (k : Int) := by omega
      have hcmp : Op.bytesLess x.toList y.toList = true := by
        rw [bytesLess_eq, Lib.toList_data, Lib.toList_data]
        exact decide_eq_true hl
      clear hx hy hl
      go_wp2_with fail
      go_quiet (fail)
      go_wp2_with fail
      go_roundw
      case rel => exact ⟨k + 1, _, by omega, by go_num, rfl⟩
      case measure => simp [intOf]; omega
    · have hj2 : ¬ (k : Int) + 1 < (n : Int) := by omega
      go_wp2_with fail
      go_ret
      exact ⟨rfl, below_drewN (Below.refl _ _) _⟩
theorem l_sameTexts (A A' : Option Addr) (n n' c c' : Nat) (xs ys : List ByteArray) (B B' : Nat) (w : World) (hr : Rd w B A n (xs.map Value.string)) (hr' : Rd w B' A' n' (ys.map Value.string)) (hm : n ≤ 9223372036854775807) (hm' : n' ≤ 9223372036854775807) :
    Calls Try.prog 8 #[.slice A n c, .slice A' n' c'] w fun e w' => e = .returned (.bool (decide (xs = ys))) ∧ Below w.heap.size w w' := by
  by_cases hnn : n = n'
  · subst hnn
    go_enter Try.func8, Try.ntmps8
    go_wp2
    go_loopw [5] (fun i wr => ∃ k m : Nat, k ≤ n ∧ i = .int .i64 k ∧ Hid (xs.take k = ys.take k) ∧ wr = w.drewN m) (fun i _ => n - (intOf i).toNat)
    case atStart => exact ⟨0, 0, by omega, rfl, hide rfl, rfl⟩
    case round =>
      obtain ⟨k, m, hk, rfl, Hno, rfl⟩ := hrel
      by_cases hlt : k < n
      · obtain ⟨b, off, x, hA, hb, hx, hc⟩ := hr.get hlt
        obtain ⟨b', off', y, hA', hb', hy, hc'⟩ := hr'.get hlt
        subst hA hA'
        have Hx := hide hx
        have Hy := hide hy
        clear hx hy
        by_cases he : x = y
        · have he1 : (x.toList != y.toList) = false := by rw [he]; simp
          go_wp2
          go_quiet (fail)
          go_wp2
          exact ⟨⟨k + 1, _, by omega, by go_num, hide (by rw [take_snoc Hx.out, take_snoc Hy.out, Hno.out, he]), rfl⟩, by simp [intOf]; omega⟩
        · have he2 : (x.toList == y.toList) = false := by rw [bytes_beq]; simpa using he
          have he1 : (x.toList != y.toList) = true := by rw [bne_iff_ne]; intro h; exact he (by simpa [bytes_beq] using beq_iff_eq.2 h)
          have hxy : decide (xs = ys) = false := by
            rw [decide_eq_false_iff_not]
            rintro rfl
            have h1 := Hx.out
            rw [Hy.out] at h1
            injection h1 with h1
            exact he h1.symm
          have Hxy := hide hxy
          clear hxy
          go_wp2
          go_quiet (fail)
          go_wp2
          go_ret
          exact ⟨ret_bool Hxy.out.symm, below_drewN (below_drewN (Below.refl _ _) _) _⟩
      · have hxy : decide (xs = ys) = true := by
          rw [decide_eq_true_eq]
          have h := Hno.out
          rw [List.take_of_length_le (by have := hr.len; omega), List.take_of_length_le (by have := hr'.len; omega)] at h
          exact h
        have Hxy := hide hxy
        clear hxy
        go_wp2
        go_ret
        exact ⟨ret_bool Hxy.out.symm, below_drewN (Below.refl _ _) _⟩
  · have hne : ((n : Int) != (n' : Int)) = true := by rw [bne_iff_ne]; omega
    have hxy : decide (xs = ys) = false := by rw [decide_eq_false_iff_not]; rintro rfl; exact hnn (hr.len.symm.trans hr'.len)
    have Hxy := hide hxy
    clear hxy
    go_enter Try.func8, Try.ntmps8
    go_wp2
    go_ret
    exact ⟨ret_bool Hxy.out.symm, Below.refl _ _⟩
end Go.Proofs.Ytnbkckklodeifaa
