/- Structs handed on whole: loads and stores of all cells at once. Plain: no program. -/
import Derived.Test.YtaihdnlpdibkoaaFrame
import Derived.Deep.WholeRow
import Derived.Laws.Cells
namespace Go.Proofs.Ytaihdnlpdibkoaa
set_option maxRecDepth 100000
open Go.RowKit

/-- A goal that the walk lets be. -/
def Hold (p : Prop) : Prop := p
theorem hold {p : Prop} (h : Hold p) : p := h
theorem Hold.go {p : Prop} (h : p) : Hold p := h
/-- All cells at once, in a world that holds them. -/
theorem load_at {P : Program} {W : World} {b o n : Nat} {cs : List Value} (hn : cs.length = n) (h : CellsAt W b o cs) : Sem.run P (loadCellsFrom ⟨b, o, none⟩ 0 n #[]) W = .ok cs.toArray W := by
  have := run_loadCells_list (P := P) (w := W) ⟨b, o, none⟩ cs (fun j v hv => by
    have hadd : (⟨b, o, none⟩ : Addr).add j = ⟨b, o + j, none⟩ := by unfold Addr.add; split <;> simp_all
    rw [hadd]
    exact h j v hv)
  rw [hn] at this
  simpa [loadCells] using this
theorem load_rule {P : Program} {W0 : World} {b o n B : Nat} {cs : List Value} (hn : cs.length = n) (h : CellsAt W0 b o cs) (hb : b < B) : ∀ W : World, Below B W0 W → Sem.run P (loadCellsFrom ⟨b, o, none⟩ 0 n #[]) W = .ok cs.toArray W := fun W hW =>
  load_at hn (h.below hW hb)
/-- All cells at once into the block made last. -/
theorem store_new {P : Program} {t : TypeId} {n : Nat} {cs : List Value} (hi : (P.info? t).map (·.size) = some n) (hn : cs.length = n) (h1 : ∀ v ∈ cs, v.oneCell' = true) (W : World) (c : Array Value) (hc : c.size = n) :
    Sem.run P (storeCells ⟨W.heap.size, 0, none⟩ cs 0) (W.alloc (.cells c t)) = .ok () (W.alloc (.cells cs.toArray t)) := by
  have := run_storeCells_new (P := P) W t c cs.toArray (by rw [hi]; simp [hn]) (by simp [hn, hc]) (by simpa using h1)
  simpa using this
theorem run_loadVar_at {P : Program} {W : World} {b o : Nat} {ty : TypeId} {cs : List Value} {d : TypeDesc} (hu : P.underlying ty = some d) (hd : (match d with | .struct _ | .array _ _ => true | _ => false) = true) (hi : (P.info? ty).map (·.size) = some cs.length) (h : CellsAt W b o cs) :
    (loadVar ty ⟨b, o, none⟩).run P W = .ok (.agg cs.toArray) W := by
  have hl := load_at (P := P) rfl h
  cases hq : P.info? ty with
  | none => simp [hq] at hi
  | some i =>
    have hs : i.size = cs.length := by simpa [hq] using hi
    have hagg : (isAgg ty).run P W = .ok true W := by
      unfold isAgg
      rw [Sem.run_bind, run_underlying hu W]
      cases d <;> simp_all
    simp [loadVar, Sem.run_bind, hagg, sizeOf, typeInfo, hq, hs, loadCells, hl]
/-- A struct loaded whole. -/
theorem wpList_load_at {P : Program} {ops : Array Oper} {rest : List Oper} {o : Oper} {a : Act} {w : World} {Q : Exit → Act → World → Prop} (ty : TypeId) (x : Operand) (ho : o.op = .load ty x) {d : TypeDesc} (hu : P.underlying ty = some d) (hd : (match d with | .struct _ | .array _ _ => true | _ => false) = true)
    {b off n : Nat} {cs : List Value} (hi : (P.info? ty).map (·.size) = some n) (hw : Region.wanted o (yielded ops a.tmps) = true) (hx : a.eval x = .pointer (some ⟨b, off, none⟩)) (hn : cs.length = n) (hc : CellsAt w b off cs)
    (h : wpList P ops Q rest (a.put o.dst (.agg cs.toArray)) w) : wpList P ops Q (o :: rest) a w :=
  BigFrame.wpList_want hw fun K hK => by
    subst hn
    unfold Oper.wp execOp
    simp only [ho, hx, Instr.loadAt, Instr.sureAddr, Sem.run_bind, Sem.run_pure, Result.andThen_ok, run_loadVar_at hu hd hi hc]
    exact hK _ _ h
/-- A struct stored whole into the block that was made last. -/
theorem wpList_store_new {P : Program} {ops : Array Oper} {rest : List Oper} {o : Oper} {a : Act} {W : World} {Q : Exit → Act → World → Prop} (ty : TypeId) (x y : Operand) (ho : o.op = .store ty x y)
    {n : Nat} {cs : List Value} {c : Array Value} (hi : (P.info? ty).map (·.size) = some n) (hw : Region.wanted o (yielded ops a.tmps) = true) (hy : a.eval y = .agg cs.toArray) {g : Nat} (hx : a.eval x = .pointer (some ⟨g, 0, none⟩)) (hg : W.heap.size = g) (hn : cs.length = n) (h1 : ∀ v ∈ cs, v.oneCell' = true) (hc : c.size = n)
    (h : wpList P ops Q rest (a.put o.dst undef) (W.alloc (.cells cs.toArray ty))) : wpList P ops Q (o :: rest) a (W.alloc (.cells c ty)) :=
  BigFrame.wpList_want hw fun K hK => by
    subst hg
    have hr := run_storeVar_new (P := P) W ty c cs.toArray (by rw [hi]; simp [hn]) (by simp [hn, hc]) (by simpa using h1)
    unfold Oper.wp execOp
    simp only [ho, hx, hy, Instr.storeAt, Instr.sureAddr, Sem.run_bind, Sem.run_pure, Result.andThen_ok, hr]
    exact hK _ _ h
theorem Put.of_row {w : World} {g off : Nat} {old : Array Value} {t : TypeId} {cs : List Value} (hg : w.heap[g]? = some (.cells old t (0, 0))) (hfit : off + cs.length ≤ old.size) :
    Put w g off cs old t (w.setRow g (old.toList.take off ++ cs ++ old.toList.drop (off + cs.length)).toArray) := by
  refine ⟨⟨_, setRow_heap w g old _ t _ hg, ?_, fun i hi => ?_, fun j u hu => ?_⟩, fun k hk => setRow_other w g k _ hk, by simp, rfl, rfl, rfl⟩
  · simp only [List.size_toArray, List.length_append, List.length_take, List.length_drop, Array.length_toList]
    omega
  · rw [List.getElem?_toArray]
    rcases hi with hi | hi
    · rw [List.append_assoc, List.getElem?_append_left (by simp; omega), List.getElem?_take, if_pos hi, Array.getElem?_toList]
    · rw [List.getElem?_append_right (by simp; omega), List.getElem?_drop, Array.getElem?_toList]
      congr 1
      simp
      omega
  · have hj := (List.getElem?_eq_some_iff.1 hu).1
    rw [List.getElem?_toArray, List.append_assoc, List.getElem?_append_right (by simp; omega), List.getElem?_append_left (by simp; omega)]
    rw [← hu]
    congr 1
    simp
    omega
/-- A struct stored whole into an older block. -/
theorem wpList_store_at {P : Program} {ops : Array Oper} {rest : List Oper} {o : Oper} {a : Act} {w : World} {Q : Exit → Act → World → Prop} (ty : TypeId) (x y : Operand) (ho : o.op = .store ty x y)
    {n : Nat} {cs : List Value} (hi : (P.info? ty).map (·.size) = some n) (hw : Region.wanted o (yielded ops a.tmps) = true) (hy : a.eval y = .agg cs.toArray) {g off : Nat} (hx : a.eval x = .pointer (some ⟨g, off, none⟩)) (hn : cs.length = n) (h1 : ∀ v ∈ cs, v.oneCell' = true)
    {old : Array Value} {t : TypeId} (hg : w.heap[g]? = some (.cells old t (0, 0))) (hfit : off + n ≤ old.size)
    (h : ∀ w', Put w g off cs old t w' → wpList P ops Q rest (a.put o.dst undef) w') : wpList P ops Q (o :: rest) a w :=
  BigFrame.wpList_want hw fun K hK => by
    subst hn
    have hst := run_storeCells_at P g off t cs 0 old w hg (by simpa using hfit) h1
    simp only [Nat.add_zero] at hst
    have hr : (storeVar ty ⟨g, off, none⟩ (.agg cs.toArray)).run P w = .ok () (w.setRow g (old.toList.take off ++ cs ++ old.toList.drop (off + cs.length)).toArray) := by
      cases hq : P.info? ty with
      | none => simp [hq] at hi
      | some i =>
        have hs : i.size = cs.length := by simpa [hq] using hi
        simp [storeVar, sizeOf, typeInfo, hq, Value.cells, hs, hst]
    unfold Oper.wp execOp
    simp only [ho, hx, hy, Instr.storeAt, Instr.sureAddr, Sem.run_bind, Sem.run_pure, Result.andThen_ok, hr]
    exact hK _ _ (h _ (Put.of_row hg hfit))
end Go.Proofs.Ytaihdnlpdibkoaa
