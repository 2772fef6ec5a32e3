/- slices.Clone at attributes and at texts; a symbol copied. Conditions: at most 2^20 elements. -/
import Derived.Test.YthifibjkgiggfaaFind
import Derived.Test.YthifibjkgiggfaaRegAll
import Derived.Lib.SliceRun
import Derived.Test.YthifibjkgiggfaaInfo
namespace Go.Proofs.Ythifibjkgiggfaa
set_option maxRecDepth 100000
open Go.RowKit Go.WideShapes
set_option linter.unusedVariables false

theorem AtrR.plain (D : Nat) : ∀ w x cs F, AtrR D w x cs F → F = [] := fun w x cs F h => h.2.2.2.2.2.2
theorem StrR.plain (D : Nat) : ∀ w x cs F, StrR D w x cs F → F = [] := fun w x cs F h => h.2.2
theorem infoAtr : (Try.prog.info? 128).map (fun i => (i.zero, i.size, i.bytes)) = some (some (.agg #[.string ByteArray.empty, .int .i64 0, .int .i64 0, .bool false]), 4, 40) := by kernel_rfl
theorem t_CloneA (D : Nat) (xs : List Atr) (v : Value) (F : List Nat) (w : World) (h : SlR 4 (AtrR D) w xs v F) (hn : xs.length ≤ 1048576) :
    Calls Try.prog 109 #[v] w fun en w' => ∃ v' G, en = .returned v' ∧ SlR 4 (AtrR D) w' xs v' G ∧ Fresh w.heap.size w' G ∧ Below w.heap.size w w' := by
  obtain ⟨A, cap, rfl, hlc, hm⟩ := h.form
  unfold maxLen at hm
  match A, h with
  | none, h =>
    have hx0 : xs = [] := by
      obtain ⟨A', cap', hv, _, _, hc⟩ := h
      rcases hc with ⟨h0, _⟩ | ⟨b, off, F', h2, _⟩
      · exact h0
      · injection hv with hv
        rw [h2] at hv
        cases hv
    subst hx0
    clear h
    have hnil : ∀ W : World, (binOp .eql 77 (.slice none 0 cap) (.slice none 0 0)).run Try.prog W = .ok (.bool true) W := fun W => Lib.run_eql_slice_nil W 77 128 none 0 cap 0 0 Try.underlying77
    go_enter Try.func109, Try.ntmps109
    go_wp2_with fail
    go_ret
    exact ⟨_, [], rfl, nilSlR w, Fresh.nil _ _, Below.refl _ _⟩
  | some ad, h =>
    have Hh := hide h
    clear h
    have hnil : ∀ W : World, (binOp .eql 77 (.slice (some ad) xs.length cap) (.slice none 0 0)).run Try.prog W = .ok (.bool false) W := fun W => Lib.run_eql_slice_nil W 77 128 (some ad) xs.length cap 0 0 Try.underlying77
    go_enter Try.func109, Try.ntmps109
    go_wp2_with (at_builtin; refine app_all rfl (.tmp 5) (.tmp 6) 77 128 rfl Try.underlying77 infoAtr rfl (by decide) (AtrR.good D) (AtrR.plain D) (fun w x cs F h => AtrR.one h) w xs (some ad) cap F Hh.out rfl rfl (.inr rfl) (by omega) (by omega) ?_; intro v1 w1 hG hB)
    obtain ⟨G, h1, h2⟩ := hG
    go_ret
    exact ⟨_, G, rfl, h1, h2, hB⟩
theorem infoStr3 : (Try.prog.info? 9).map (fun i => (i.zero, i.size, i.bytes)) = some (some (.string ByteArray.empty), 1, 16) := by kernel_rfl
theorem t_CloneS (D : Nat) (xs : List ByteArray) (v : Value) (F : List Nat) (w : World) (h : SlR 1 (StrR D) w xs v F) (hn : xs.length ≤ 1048576) :
    Calls Try.prog 159 #[v] w fun en w' => ∃ v' G, en = .returned v' ∧ SlR 1 (StrR D) w' xs v' G ∧ Fresh w.heap.size w' G ∧ Below w.heap.size w w' := by
  obtain ⟨A, cap, rfl, hlc, hm⟩ := h.form
  unfold maxLen at hm
  match A, h with
  | none, h =>
    have hx0 : xs = [] := by
      obtain ⟨A', cap', hv, _, _, hc⟩ := h
      rcases hc with ⟨h0, _⟩ | ⟨b, off, F', h2, _⟩
      · exact h0
      · injection hv with hv
        rw [h2] at hv
        cases hv
    subst hx0
    clear h
    have hnil : ∀ W : World, (binOp .eql 22 (.slice none 0 cap) (.slice none 0 0)).run Try.prog W = .ok (.bool true) W := fun W => Lib.run_eql_slice_nil W 22 9 none 0 cap 0 0 Try.underlying22
    go_enter Try.func159, Try.ntmps159
    go_wp2_with fail
    go_ret
    exact ⟨_, [], rfl, nilSlR w, Fresh.nil _ _, Below.refl _ _⟩
  | some ad, h =>
    have Hh := hide h
    clear h
    have hnil : ∀ W : World, (binOp .eql 22 (.slice (some ad) xs.length cap) (.slice none 0 0)).run Try.prog W = .ok (.bool false) W := fun W => Lib.run_eql_slice_nil W 22 9 (some ad) xs.length cap 0 0 Try.underlying22
    go_enter Try.func159, Try.ntmps159
    go_wp2_with (at_builtin; refine app_all rfl (.tmp 5) (.tmp 6) 22 9 rfl Try.underlying22 infoStr3 rfl (by decide) (StrR.good D) (StrR.plain D) (fun w x cs F h => StrR.one h) w xs (some ad) cap F Hh.out rfl rfl (.inr rfl) (by omega) (by omega) ?_; intro v1 w1 hG hB)
    obtain ⟨G, h1, h2⟩ := hG
    go_ret
    exact ⟨_, G, rfl, h1, h2, hB⟩
set_option maxRecDepth 100000 in
set_option maxHeartbeats 2000000 in
theorem s_l10Symbol (D : Nat) (x : Sym) (cs : List Value) (F : List Nat) (w : World) (h : SymR D w x cs F) (hbk : bulkSym D x ≤ 1048576) :
    Calls Try.prog 107 #[.agg cs.toArray] w fun en w' => ∃ us F', en = .returned (.agg (List.toArray us)) ∧ SymR D w' x us F' ∧ Fresh w.heap.size w' F' ∧ Below w.heap.size w w' := by
  obtain ⟨p0, p1, rfl⟩ := list2 ((SymR.good D).len h)
  obtain ⟨v1, F1, _, hk, h0, ⟨h1, g1⟩, rfl⟩ := h
  obtain rfl := Option.some.inj h0
  obtain rfl := Option.some.inj h1
  obtain ⟨A, cap, rfl, hlc, hm⟩ := g1.form
  unfold maxLen at hm
  have hln := bulk_attrs hbk
  have HF := hide (g1.lt (AtrR.good D))
  have Hg := hide g1
  have Hk := hide hk
  obtain ⟨C0, hR0, hz0, hw0⟩ := boxR w [.string x.name, .slice A x.attrs.length cap] [.string ⟨#[]⟩, .slice none 0 0] 79 79
  show Calls _ _ #[.agg #[.string x.name, .slice A x.attrs.length cap]] w _
  clear g1 h0 h1 hk
  go_enter Try.func107, Try.ntmps107
  go_wp2_with fail
  generalize (w.alloc (Obj.cells #[.string x.name, .slice A x.attrs.length cap] 79)).alloc (Obj.cells #[.string ⟨#[]⟩, .slice none 0 0] 79) = W0 at C0 hR0 hz0 hw0 ⊢
  have hn0 : w.heap.size + 2 ≤ W0.heap.size := by omega
  have hB0 : Below (w.heap.size + 1) W0 W0 := Below.refl _ _
  have e0 := cell_rule C0 (n := w.heap.size + 1) (by omega) 0 rfl
  have e1 := cell_rule C0 (n := w.heap.size + 1) (by omega) 1 rfl
  have hm1 : w.heap.size + 1 ≤ W0.heap.size := by omega
  have HR0 := hide hR0
  have Hw0 := hide hw0
  have Hg0 : Hid (SlR 4 (AtrR D) W0 x.attrs (.slice A x.attrs.length cap) F) := hide (Hg.out.below (AtrR.good D) hw0 HF.out)
  clear C0 hz0 hw0 hR0
  go_wp2_with fail
  go_region_held3 (fun W => Below (w.heap.size + 1) W0 W)
    (first | assumption | exact Below.drew (by assumption) | exact below_alloc hm1 _ (by assumption) | exact Below.drew (below_alloc hm1 _ (by assumption)) | exact below_set2 hS (Nat.le_refl _))
    ((refine step_all rfl (.tmp 5) (.tmp 7) 77 128 rfl Try.underlying77 infoAtr rfl (by decide) (AtrR.good D) (AtrR.plain D) (fun w x cs F h => AtrR.one h) W0 x.attrs A cap F Hg0.out rfl rfl (by omega) (by omega) ?_
      intro v1 w1 hG hB
      obtain ⟨A2, cap2, rfl, _, _⟩ : ∃ A2 cap2, v1 = .slice A2 x.attrs.length cap2 ∧ x.attrs.length ≤ cap2 ∧ cap2 ≤ maxLen := by
        obtain ⟨G, h1, _⟩ := hG
        exact h1.form
      have HG := hide hG
      have hS : Below (w.heap.size + 1) W0 w1 := hB.mono hm1
      have hr1 := blk_below HR0.out hB (by omega)
      have q0 := cell_at (i := 0) hr1 (by simp)
      have q1 := cell_at (i := 1) hr1 (by simp)
      simp only [Array.getD_eq_getD_getElem?, List.getElem?_toArray, List.getElem?_cons_succ, List.getElem?_cons_zero, Option.getD_some] at q0 q1
      have z0 := frozen_of_row w1 (w.heap.size + 1) 0 _ _ hr1
      have z1 := frozen_of_row w1 (w.heap.size + 1) 1 _ _ hr1
      have Hr1 := hide hr1
      have HB := hide hB
      clear hG hB hr1))
  go_wp2_with fail
  have hP := put_spec [.string x.name, .slice A2 x.attrs.length cap2] 0 _ _ Hr1.out (by simp)
  change bodyPost _ _ _ _ _ (putCells w1 (w.heap.size + 1) 0 [.string x.name, .slice A2 x.attrs.length cap2])
  generalize putCells w1 (w.heap.size + 1) 0 [.string x.name, .slice A2 x.attrs.length cap2] = WF at hP ⊢
  obtain ⟨x0, x1⟩ := hP.cellsAt.two0
  obtain ⟨G, h1, h2⟩ := HG.out
  have hfar : ∀ k ∈ G, WF.heap[k]? = w1.heap[k]? := fun k hk => hP.far k (by have := h2.from_ k hk; omega)
  have hW : Below w.heap.size w WF := (Hw0.out.trans (HB.out.mono (by omega))).trans (hP.below (by omega))
  exact bodyPost_ret (v := .agg #[.string x.name, .slice A2 x.attrs.length cap2]) (by simp [results, Try.results107, go_sem, x0, x1]) rfl
    ⟨[.string x.name, .slice A2 x.attrs.length cap2], G, rfl, ⟨_, G, rfl, Hk.out, rfl, ⟨rfl, h1.frame (AtrR.good D) hfar (by rw [hP.size]; exact Nat.le_refl _)⟩, rfl⟩, (h2.keep hfar).mono (by omega), hW⟩
end Go.Proofs.Ythifibjkgiggfaa
