/- Symbols read from a line: what the program's walk leans on: a text parted in at most n pieces as a row that the call owns, two texts appended to such a row. Conditions: as each theorem names them. -/
import Derived.Test.YtilndebjnibgjaaDoorSymPs
import Derived.Test.YtilndebjnibgjaaDoorShelfN
import Derived.Test.YtilndebjnibgjaaDoorLibT
import Derived.ShapedOpen
namespace Go.Proofs.YtilndebjnibgjaaDoor
set_option maxRecDepth 100000
open Go.RowKit Go.WideShapes Go.Lib
set_option linter.unusedVariables false

theorem shaped_below2 {P : Program} {w w' : World} (h : w.ShapedOpen P) (hb : Below w.heap.size w w') : w'.ShapedOpen P :=
  World.ShapedOpen.keptBut h (hb.frame (fun _ => False)) (fun _ h => h.elim)
theorem splitN_row (w : World) (ps : List ByteArray) (N : Nat) (h : ps.length ≤ N) (hN : N ≤ 100) :
    (w.alloc (.cells (cellsOf ps N) 9)).ownsRow w.heap.size 9 1 (.slice (some ⟨w.heap.size, 0, none⟩) ps.length N) ps.length (ps.map Value.string) :=
  ⟨by simp, .inr ⟨w.heap.size, N, cellsOf ps N, rfl, Nat.le_refl _, heap_alloc_new w _, h, by unfold maxLen; omega, by
    unfold cellsOf
    rw [List.size_toArray, List.length_append, List.length_map, List.length_replicate]
    omega, by
    unfold cellsOf
    rw [Nat.mul_one]
    show List.take ps.length (ps.map Value.string ++ List.replicate (N - ps.length) (Value.string ByteArray.empty)) = _
    rw [List.take_append_of_le_length (by simp), List.take_of_length_le (by simp)]⟩⟩
theorem splitN_cell (w : World) (ps : List ByteArray) (N : Nat) (j : Nat) (x : ByteArray) (hx : ps[j]? = some x) : (w.alloc (.cells (cellsOf ps N) 9)).cell? ⟨w.heap.size, j, none⟩ = some (.string x) := by
  rw [cell_of_row _ _ _ _ _ _ (heap_alloc_new w _)]
  unfold cellsOf
  have hl := (List.getElem?_eq_some_iff.1 hx).1
  rw [List.getElem?_toArray, List.getElem?_append_left (by simpa using hl), List.getElem?_map, hx]
  rfl
theorem splitB_size (c : UInt8) : ∀ (k : Nat) (s : ByteArray), ∀ x ∈ splitB ⟨#[c]⟩ 0 k s, x.size ≤ s.size
  | 0, s, x, hx => by
    rw [splitB_zero] at hx
    rw [List.mem_singleton.1 hx]
    exact Nat.le_refl _
  | k + 1, s, x, hx => by
    unfold splitB at hx
    split at hx
    · rw [List.mem_singleton.1 hx]
      exact Nat.le_refl _
    · rcases List.mem_cons.1 hx with rfl | hx
      · rw [ByteArray.size_extract]; omega
      · have := splitB_size c k _ x hx
        rw [ByteArray.size_extract] at this
        omega
/-- Two texts that were just laid appended to a row that the call owns. -/
theorem app_two {ops : Array Oper} {rest : List Oper} {o : Oper} {a : Act} {Q : Exit → Act → World → Prop} (hgd : o.guard = none) (s x : Operand) (t : TypeId)
    (ho : o.op = .call { callee := .builtin .append, args := #[s, x], argTypes := #[t, t] }) (ht : Tryd.prog.underlying t = some (.slice 9))
    (W : World) (base : Nat) (v : Value) (xs : List ByteArray) (p q : ByteArray)
    (hown : W.ownsRow base 9 1 v xs.length (xs.map Value.string)) (hs : a.eval s = v) (hx : a.eval x = .slice (some ⟨W.heap.size, 0, none⟩) 2 2) (hn : xs.length ≤ 1048576) (hbase : base ≤ W.heap.size)
    (h : ∀ g cap w', w'.ownsRow base 9 1 (.slice (some ⟨g, 0, none⟩) (xs.length + 2) cap) (xs.length + 2) ((xs ++ [p, q]).map Value.string) → base ≤ g → Below base W w' → wpList Tryd.prog ops Q rest (a.put o.dst (.slice (some ⟨g, 0, none⟩) (xs.length + 2) cap)) w') :
    wpList Tryd.prog ops Q (o :: rest) a (W.alloc (.cells #[.string p, .string q] 9)) := by
  obtain ⟨i0, hi, hz0, hz1, hz2⟩ := info_parts infoStr2
  have hbA : Below base W (W.alloc (.cells #[.string p, .string q] 9)) := (Below.refl _ _).alloc hbase _
  have hcells : ∀ j u, ([.string p, .string q] : List Value)[j]? = some u → (W.alloc (.cells #[.string p, .string q] 9)).cell? ((⟨W.heap.size, 0, none⟩ : Addr).add j) = some u := fun j u hu => by
    have := CellsAt.new W [.string p, .string q] 9 j u hu
    rw [Nat.zero_add] at this
    unfold Addr.add
    split
    · rename_i h0; subst h0; exact this
    · rw [show (0 : Nat) + j = j by omega]; exact this
  refine wpList_append_own _ hgd s x t ho base 9 i0 _ 1 16 ht hi hz0 hz1 hz2 rfl (by decide) v xs.length _ hs (own_below hown ((Below.refl _ _).alloc (Nat.le_refl _) _)) ⟨W.heap.size, 0, none⟩ 2 2 [.string p, .string q] hx rfl hcells (fun u hu => by
    simp only [List.mem_cons, List.not_mem_nil, or_false] at hu
    rcases hu with rfl | rfl <;> rfl) (by unfold maxLen; omega) (by omega) (by rw [World.size_alloc]; omega) ?_
  intro v' w' h2 h3 _
  have h4 : w'.ownsRow base 9 1 v' (xs.length + 2) ((xs ++ [p, q]).map Value.string) := by rw [List.map_append]; exact h2
  have hbl : Below base W w' := hbA.grown h3 (by rw [World.size_alloc]; omega) fun k hk => (hown.lt k hk).1
  rcases h4.2 with ⟨_, h0⟩ | ⟨g, cap, cur, rfl, hg, _⟩
  · omega
  · exact h g cap w' h4 hg hbl
theorem idxOfS_range (xs : List ByteArray) (s : ByteArray) : -1 ≤ idxOfS xs s ∧ idxOfS xs s ≤ xs.length := by
  have : ∀ (l : List ByteArray) (i : Nat), -1 ≤ idxFromS l s i ∧ idxFromS l s i ≤ i + l.length := fun l => by
    induction l with
    | nil => intro i; simp [idxFromS]
    | cons z l ih =>
      intro i
      unfold idxFromS
      split
      · simp only [List.length_cons]; omega
      · have := ih (i + 1)
        simp only [List.length_cons]
        omega
  have := this xs 0
  unfold idxOfS
  omega
theorem attI_ok {w : ByteArray} (h : w.size ≤ 1048576) : (attI w).ok := by
  have hw : ∀ {t : Int}, 0 ≤ t → t ≤ 6 → (Lit.int .i64 t).wf = true := fun {t} h1 h2 => by
    have e1 : IntKind.i64.min = -9223372036854775808 := rfl
    have e2 : IntKind.i64.max = 9223372036854775807 := rfl
    simp [Lit.wf, e1, e2]
    omega
  have hp : ∀ x ∈ prtI w, x.size ≤ 1048576 := fun x hx => by
    unfold prtI at hx
    rcases List.mem_append.1 hx with hx | hx
    · exact Nat.le_trans (splitB_size 58 _ w x hx) h
    · simp only [List.mem_cons, List.not_mem_nil, or_false] at hx
      rcases hx with rfl | rfl <;> decide
  have h0 : ((prtI w).getD 0 ⟨#[]⟩).size ≤ maxLen := by
    rw [List.getD_eq_getElem?_getD]
    cases hg : (prtI w)[0]? with
    | none => show (0 : Nat) ≤ maxLen; omega
    | some x =>
      have := hp x (List.mem_of_getElem? hg)
      show x.size ≤ maxLen
      unfold maxLen
      omega
  have h1 := idxOfS_range typesI (⟨(trimSuffix ((prtI w).getD 2 ⟨#[]⟩).data.toList [33]).toArray⟩)
  have h2 := idxOfS_range modesI ((prtI w).getD 1 ⟨#[]⟩)
  have e1 : typesI.length = 4 := rfl
  have e2 : modesI.length = 3 := rfl
  exact ⟨h0, hw (show 0 ≤ 1 + idxOfS typesI _ by omega) (show 1 + idxOfS typesI _ ≤ 6 by omega), hw (show 0 ≤ 1 + idxOfS modesI _ by omega) (show 1 + idxOfS modesI _ ≤ 6 by omega)⟩
theorem prtI_len (w : ByteArray) : 3 ≤ (prtI w).length ∧ (prtI w).length ≤ 5 := by
  have h1 := splitB_length_le ⟨#[58]⟩ 0 (min 3 (w.size + 1) - 1) w
  have h2 : 1 ≤ (splitB ⟨#[58]⟩ 0 (min 3 (w.size + 1) - 1) w).length := by
    cases hk : min 3 (w.size + 1) - 1 with
    | zero => rw [splitB_zero]; simp
    | succ k =>
      unfold splitB
      split <;> simp
  unfold prtI
  rw [List.length_append]
  simp only [List.length_cons, List.length_nil]
  omega
theorem parseQ_few {s : ByteArray} (h : ¬ 2 ≤ (wordsI s).length) : parseY s = (zeroY, false) := by
  rw [← parseQ_eq]
  unfold parseQ
  rw [if_neg fun q => h q.1]
theorem parseQ_not {s : ByteArray} (h : fmtSym (symI s) ≠ s) : parseY s = (zeroY, false) := by
  rw [← parseQ_eq]
  unfold parseQ
  rw [if_neg fun q => h q.2]
theorem parseQ_yes {s : ByteArray} (h : 2 ≤ (wordsI s).length) (h' : fmtSym (symI s) = s) : parseY s = (symI s, true) := by
  rw [← parseQ_eq]
  unfold parseQ
  rw [if_pos ⟨h, h'⟩]
end Go.Proofs.YtilndebjnibgjaaDoor
