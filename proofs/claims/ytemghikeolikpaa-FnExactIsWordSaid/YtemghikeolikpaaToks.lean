/- Tokens and attributes: structs by value, opened; the functions on one of them. Conditions: a text's length fits an int. -/
import Derived.Test.YtemghikeolikpaaNames
namespace Go.Proofs.Ytemghikeolikpaa
open Go.RowKit Go.WideShapes

structure Tok where
  kind : Int
  n : Int
  at_ : Int
  text : ByteArray
def Tok.cells (t : Tok) : List Value := [.int .i64 t.kind, .int .i64 t.n, .int .i64 t.at_, .string t.text]
structure Tok.ok (t : Tok) : Prop where
  kind : (Lit.int .i64 t.kind).wf = true
  n : (Lit.int .i64 t.n).wf = true
  at_ : (Lit.int .i64 t.at_).wf = true
  text : t.text.size ≤ maxLen
section
variable {H : Type} {enc : TypeId × Value → H} {w : World} {base fuel : Nat} {sp : Nat → Bool} {held : Bool} {cs : List Value} {x : DataW H × List MemPlace}
theorem cells_Tok (h : DataW.trod enc Try.prog w base sp held fuel 24 cs = some x) : ∃ t : Tok, cs = t.cells ∧ t.ok := by
  have ht := Try.underlying24
  have hl := (trod_len ht h).trans (show Try.prog.cellsOf 24 = 4 by kernel_rfl)
  obtain ⟨c0, c1, c2, c3, rfl⟩ := list4 hl
  obtain ⟨z0, e0, w0⟩ := field_int 0 _ ht h rfl Try.underlying3 (by kernel_rfl)
  obtain ⟨z1, e1, w1⟩ := field_int 1 _ ht h rfl Try.underlying3 (by kernel_rfl)
  obtain ⟨z2, e2, w2⟩ := field_int 2 _ ht h rfl Try.underlying3 (by kernel_rfl)
  obtain ⟨z3, e3, w3⟩ := field_string 3 _ ht h rfl Try.underlying9 (by kernel_rfl)
  simp at e0 e1 e2 e3
  subst e0 e1 e2 e3
  exact ⟨⟨z0, z1, z2, z3⟩, rfl, ⟨w0, w1, w2, w3⟩⟩
end
theorem open_Tok {H : Type} {enc : TypeId × Value → H} {w : World} {C base : Nat} {sp : Nat → Bool} {held : Bool} {v : Value} {d : DataW H} {p : List MemPlace} (hv : Value.okWide Try.prog w .any C 24 v)
    (h : DataW.Trod enc Try.prog w base sp held 24 v d p) : ∃ t : Tok, v = .agg t.cells.toArray ∧ t.ok := by
  obtain ⟨cs, fuel, x, rfl, hf⟩ := okWide_cells Try.underlying24 hv h
  obtain ⟨t, he, ht⟩ := cells_Tok hf
  exact ⟨t, by rw [← he], ht⟩

theorem l_toToken (k n a : Int) (s : ByteArray) (w : World) : Calls Try.prog 16 #[.agg #[.int .i64 k, .int .i64 n, .int .i64 a, .string s]] w fun e w' => e = .returned (.agg #[.int .i64 k, .int .i64 n, .int .i64 a, .string s]) ∧ Below w.heap.size w w' := by
  go_enter Try.func16, Try.ntmps16
  go_wp2
  exact bodyPost_ret (v := .agg #[.int .i64 k, .int .i64 n, .int .i64 a, .string s]) (by simp [results, Try.results16, go_sem]) rfl ⟨rfl, (((Below.refl _ _).alloc (Nat.le_refl _) _).alloc (by simp) _).alloc (by simp; omega) _⟩
theorem l_szToken (k n a L : Int) (s : ByteArray) (hs : s.size ≤ maxLen) (h0 : 0 ≤ L) (h1 : L ≤ 1048576) (w : World) : Calls Try.prog 14 #[.agg #[.int .i64 k, .int .i64 n, .int .i64 a, .string s], .int .i64 L] w fun e w' => e = .returned (.int .i64 (if L < s.size then -1 else L - s.size)) ∧ Below w.heap.size w w' := by
  unfold maxLen at hs
  by_cases h : L < s.size
  all_goals
    go_enter Try.func14, Try.ntmps14
    go_wp2
    go_ret
    exact ⟨ret_int (by first | rfl | (split <;> first | rfl | omega)), (Below.refl _ _).alloc (Nat.le_refl _) _⟩
theorem s_IsWord (k n a : Int) (s r : ByteArray) (w : World) : Calls Try.prog 15 #[.agg #[.int .i64 k, .int .i64 n, .int .i64 a, .string s], .string r] w fun e w' => e = .returned (.bool (decide (k = 1 ∨ k = 3) && (s.toList == r.toList))) ∧ Below w.heap.size w w' := by
  go_enter Try.func15, Try.ntmps15
  go_wp2
  all_goals
    go_ret
    exact ⟨ret_bool (by simp_all), (Below.refl _ _).alloc (Nat.le_refl _) _⟩
theorem i_IsWord (k n a : Int) (s r : ByteArray) (w : World) : Calls Try.prog 17 #[.agg #[.int .i64 k, .int .i64 n, .int .i64 a, .string s], .string r] w fun e w' => e = .returned (.bool (decide (k = 1 ∨ k = 3) && (s.toList == r.toList))) ∧ Below w.heap.size w w' := by
  go_enter Try.func17, Try.ntmps17
  go_wp2
  all_goals
    go_ret
    exact ⟨ret_bool (by simp_all), (Below.refl _ _).alloc (Nat.le_refl _) _⟩
end Go.Proofs.Ytemghikeolikpaa
