/- slices.Clone at attributes and at texts; a symbol copied. Conditions: at most 2^20 elements. -/
import Derived.Test.YtaihdnlpdibkoaaFind
import Derived.Test.YtaihdnlpdibkoaaRegAll
import Derived.Lib.SliceRun
import Derived.Test.YtaihdnlpdibkoaaInfo
namespace Go.Proofs.Ytaihdnlpdibkoaa
set_option maxRecDepth 100000
open Go.RowKit Go.WideShapes
set_option linter.unusedVariables false

theorem AtrR.plain (D : Nat) : ∀ w x cs F, AtrR D w x cs F → F = [] := fun w x cs F h => h.2.2.2.2.2.2
theorem StrR.plain (D : Nat) : ∀ w x cs F, StrR D w x cs F → F = [] := fun w x cs F h => h.2.2
theorem infoAtr : (Try.prog.info? 146).map (fun i => (i.zero, i.size, i.bytes)) = some (some (.agg #[.string ByteArray.empty, .int .i64 0, .int .i64 0, .bool false]), 4, 40) := by kernel_rfl
theorem infoStr3 : (Try.prog.info? 9).map (fun i => (i.zero, i.size, i.bytes)) = some (some (.string ByteArray.empty), 1, 16) := by kernel_rfl
theorem t_CloneS (D : Nat) (xs : List ByteArray) (v : Value) (F : List Nat) (w : World) (h : SlR 1 (StrR D) w xs v F) (hn : xs.length ≤ 1048576) :
    Calls Try.prog 81 #[v] w fun en w' => ∃ v' G, en = .returned v' ∧ SlR 1 (StrR D) w' xs v' G ∧ Fresh w.heap.size w' G ∧ Below w.heap.size w w' := by
  obtain ⟨A, cap, rfl, hlc, hm⟩ := h.form
  unfold maxLen at hm
  match A, h with
  | none, h =>
    have hx0 : xs = [] := by
      obtain ⟨A', cap', hv, _, _, hc⟩ := h
      rcases hc with ⟨h0, _⟩ | ⟨b, off, F', h2, _⟩
      · exact h0
      · injection hv with hv
        rw [h2] at hv
        cases hv
    subst hx0
    clear h
    have hnil : ∀ W : World, (binOp .eql 27 (.slice none 0 cap) (.slice none 0 0)).run Try.prog W = .ok (.bool true) W := fun W => Lib.run_eql_slice_nil W 27 9 none 0 cap 0 0 Try.underlying27
    go_enter Try.func81, Try.ntmps81
    go_wp2_with fail
    go_ret
    exact ⟨_, [], rfl, nilSlR w, Fresh.nil _ _, Below.refl _ _⟩
  | some ad, h =>
    have Hh := hide h
    clear h
    have hnil : ∀ W : World, (binOp .eql 27 (.slice (some ad) xs.length cap) (.slice none 0 0)).run Try.prog W = .ok (.bool false) W := fun W => Lib.run_eql_slice_nil W 27 9 (some ad) xs.length cap 0 0 Try.underlying27
    go_enter Try.func81, Try.ntmps81
    go_wp2_with (at_builtin; refine app_all rfl (.tmp 5) (.tmp 6) 27 9 rfl Try.underlying27 infoStr3 rfl (by decide) (StrR.good D) (StrR.plain D) (fun w x cs F h => StrR.one h) w xs (some ad) cap F Hh.out rfl rfl (.inr rfl) (by omega) (by omega) ?_; intro v1 w1 hG hB)
    obtain ⟨G, h1, h2⟩ := hG
    go_ret
    exact ⟨_, G, rfl, h1, h2, hB⟩
end Go.Proofs.Ytaihdnlpdibkoaa
