/- Symbols read from a line: the reference's. Conditions: the line has at most 2^20 bytes. -/
import Derived.Test.YtilndebjnibgjaaDoorSymPa
namespace Go.Proofs.YtilndebjnibgjaaDoor
set_option maxRecDepth 100000
open Go.RowKit Go.WideShapes Go.Lib
set_option linter.unusedVariables false

theorem infoAtr2 : (Tryd.prog.info? 33).map (fun i => (i.zero, i.size, i.bytes)) = some (some (.agg #[.string ByteArray.empty, .int .i64 0, .int .i64 0, .bool false]), 4, 40) := by kernel_rfl
theorem idxS_range (xs : List ByteArray) (s : ByteArray) : -1 ≤ idxS xs s ∧ idxS xs s ≤ xs.length := by
  unfold idxS
  split
  · rename_i i h
    have := (List.findIdx?_eq_some_iff_getElem.1 h).1
    omega
  · omega
theorem attS_ok {w : List UInt8} (h : w.length ≤ 1048576) : (attS w).ok := by
  have hw : ∀ {t : Int}, -1 ≤ t → t ≤ 5 → (Lit.int .i64 t).wf = true := fun {t} h1 h2 => by
    have e1 : IntKind.i64.min = -9223372036854775808 := rfl
    have e2 : IntKind.i64.max = 9223372036854775807 := rfl
    simp [Lit.wf, e1, e2]
    omega
  unfold attS
  split
  · rename_i p0 p1 p2 e
    have hm : p0.length ≤ w.length := splitL_mem 58 w p0 (by rw [e]; simp)
    have hz : (toB p0).size ≤ maxLen := by
      have : (toB p0).size = p0.length := by simp [toB, ByteArray.size]
      unfold maxLen
      omega
    unfold attP
    split
    · have h1 := idxS_range typesS (toB p2.dropLast)
      have h2 := idxS_range modesS (toB p1)
      exact ⟨hz, hw h1.1 h1.2, hw h2.1 (Int.le_trans h2.2 (by decide))⟩
    · have h1 := idxS_range typesS (toB p2)
      have h2 := idxS_range modesS (toB p1)
      exact ⟨hz, hw h1.1 h1.2, hw h2.1 (Int.le_trans h2.2 (by decide))⟩
  · exact ⟨by show (0 : Nat) ≤ maxLen; omega, hw (by decide) (by decide), hw (by decide) (by decide)⟩
theorem parseY_few {s : ByteArray} (h : ¬ 2 ≤ (wordsS s).length) : parseY s = (zeroY, false) := by
  unfold parseY
  rw [if_neg fun q => h q.1]
theorem parseY_not {s : ByteArray} (h : fmtSym (symS s) ≠ s) : parseY s = (zeroY, false) := by
  unfold parseY
  rw [if_neg fun q => h q.2]
theorem parseY_yes {s : ByteArray} (h : 2 ≤ (wordsS s).length) (h' : fmtSym (symS s) = s) : parseY s = (symS s, true) := by
  unfold parseY
  rw [if_pos ⟨h, h'⟩]
theorem zeroY_R (D : Nat) (w : World) : SymR D w zeroY [.string ⟨#[]⟩, .slice none 0 0] [] :=
  ⟨_, [], rfl, ⟨by show (0 : Nat) ≤ maxLen; omega⟩, rfl, ⟨rfl, ⟨none, 0, rfl, Nat.le_refl _, by simp [maxLen], .inl ⟨rfl, rfl⟩⟩⟩, rfl⟩
end Go.Proofs.YtilndebjnibgjaaDoor
