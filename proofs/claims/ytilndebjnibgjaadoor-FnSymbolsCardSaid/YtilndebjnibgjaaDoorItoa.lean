/- An integer in decimal: both sides. Conditions: it fits an int; the program's: the library's table of powers is laid. -/
import Derived.Test.YtilndebjnibgjaaDoorKit
import Derived.Test.YtilndebjnibgjaaDoorNum
import Derived.Test.YtilndebjnibgjaaDoorMark
import Derived.Test.YtilndebjnibgjaaDoorShelf
import Derived.Lib.AppendIntMem
namespace Go.Proofs.YtilndebjnibgjaaDoor
set_option maxRecDepth 100000
open Go.RowKit Go.Lib
set_option linter.unusedVariables false

def preD (u : Nat) : List UInt8 := if u = 0 then [] else decDigits u
theorem dig_eq {r : Nat} (h : r < 10) : UInt8.ofNat (48 + r) = 48 + UInt8.ofNat r := by
  apply UInt8.toNat_inj.1
  simp [UInt8.toNat_add, UInt8.toNat_ofNat']
theorem preD_step {u : Nat} (h : 0 < u) (out : List UInt8) : preD (u / 10) ++ ((48 + UInt8.ofNat (u % 10)) :: out) = preD u ++ out := by
  rw [← dig_eq (Nat.mod_lt _ (by omega))]
  unfold preD
  rw [if_neg (by omega : ¬ u = 0)]
  by_cases h10 : u < 10
  · rw [if_pos (by omega : u / 10 = 0), decDigits, dif_pos h10, Nat.mod_eq_of_lt h10]
    rfl
  · rw [if_neg (by omega : ¬ u / 10 = 0)]
    conv => rhs; rw [decDigits, dif_neg h10]
    simp
theorem cat1 (b : UInt8) (out : List UInt8) : (⟨#[b]⟩ : ByteArray) ++ ⟨out.toArray⟩ = ⟨(b :: out).toArray⟩ := by
  apply ByteArray.ext
  simp
theorem wf_i64 {n : Int} (h : (Lit.int .i64 n).wf = true) : -9223372036854775808 ≤ n ∧ n ≤ 9223372036854775807 := by
  have e1 : IntKind.i64.min = -9223372036854775808 := rfl
  have e2 : IntKind.i64.max = 9223372036854775807 := rfl
  simp [Lit.wf, e1, e2] at h
  omega
end Go.Proofs.YtilndebjnibgjaaDoor
