/- Structs handed on whole: loads and stores of all cells at once. Plain: no program. -/
import Derived.Test.YtddjnabjdhlooaaFrame
import Derived.Deep.WholeRow
import Derived.Laws.Cells
namespace Go.Proofs.Ytddjnabjdhlooaa
set_option maxRecDepth 100000
open Go.RowKit

/-- A goal that the walk lets be. -/
def Hold (p : Prop) : Prop := p
theorem hold {p : Prop} (h : Hold p) : p := h
theorem Hold.go {p : Prop} (h : p) : Hold p := h
/-- All cells at once, in a world that holds them. -/
theorem load_at {P : Program} {W : World} {b o n : Nat} {cs : List Value} (hn : cs.length = n) (h : CellsAt W b o cs) : Sem.run P (loadCellsFrom ⟨b, o, none⟩ 0 n #[]) W = .ok cs.toArray W := by
  have := run_loadCells_list (P := P) (w := W) ⟨b, o, none⟩ cs (fun j v hv => by
    have hadd : (⟨b, o, none⟩ : Addr).add j = ⟨b, o + j, none⟩ := by unfold Addr.add; split <;> simp_all
    rw [hadd]
    exact h j v hv)
  rw [hn] at this
  simpa [loadCells] using this
theorem load_rule {P : Program} {W0 : World} {b o n B : Nat} {cs : List Value} (hn : cs.length = n) (h : CellsAt W0 b o cs) (hb : b < B) : ∀ W : World, Below B W0 W → Sem.run P (loadCellsFrom ⟨b, o, none⟩ 0 n #[]) W = .ok cs.toArray W := fun W hW =>
  load_at hn (h.below hW hb)
/-- All cells at once into the block made last. -/
theorem store_new {P : Program} {t : TypeId} {n : Nat} {cs : List Value} (hi : (P.info? t).map (·.size) = some n) (hn : cs.length = n) (h1 : ∀ v ∈ cs, v.oneCell' = true) (W : World) (c : Array Value) (hc : c.size = n) :
    Sem.run P (storeCells ⟨W.heap.size, 0, none⟩ cs 0) (W.alloc (.cells c t)) = .ok () (W.alloc (.cells cs.toArray t)) := by
  have := run_storeCells_new (P := P) W t c cs.toArray (by rw [hi]; simp [hn]) (by simp [hn, hc]) (by simpa using h1)
  simpa using this
theorem run_loadVar_at {P : Program} {W : World} {b o : Nat} {ty : TypeId} {cs : List Value} {d : TypeDesc} (hu : P.underlying ty = some d) (hd : (match d with | .struct _ | .array _ _ => true | _ => false) = true) (hi : (P.info? ty).map (·.size) = some cs.length) (h : CellsAt W b o cs) :
    (loadVar ty ⟨b, o, none⟩).run P W = .ok (.agg cs.toArray) W := by
  have hl := load_at (P := P) rfl h
  cases hq : P.info? ty with
  | none => simp [hq] at hi
  | some i =>
    have hs : i.size = cs.length := by simpa [hq] using hi
    have hagg : (isAgg ty).run P W = .ok true W := by
      unfold isAgg
      rw [Sem.run_bind, run_underlying hu W]
      cases d <;> simp_all
    simp [loadVar, Sem.run_bind, hagg, sizeOf, typeInfo, hq, hs, loadCells, hl]
/-- A struct loaded whole. -/
theorem wpList_load_at {P : Program} {ops : Array Oper} {rest : List Oper} {o : Oper} {a : Act} {w : World} {Q : Exit → Act → World → Prop} (ty : TypeId) (x : Operand) (ho : o.op = .load ty x) {d : TypeDesc} (hu : P.underlying ty = some d) (hd : (match d with | .struct _ | .array _ _ => true | _ => false) = true)
    {b off n : Nat} {cs : List Value} (hi : (P.info? ty).map (·.size) = some n) (hw : Region.wanted o (yielded ops a.tmps) = true) (hx : a.eval x = .pointer (some ⟨b, off, none⟩)) (hn : cs.length = n) (hc : CellsAt w b off cs)
    (h : wpList P ops Q rest (a.put o.dst (.agg cs.toArray)) w) : wpList P ops Q (o :: rest) a w :=
  BigFrame.wpList_want hw fun K hK => by
    subst hn
    unfold Oper.wp execOp
    simp only [ho, hx, Instr.loadAt, Instr.sureAddr, Sem.run_bind, Sem.run_pure, Result.andThen_ok, run_loadVar_at hu hd hi hc]
    exact hK _ _ h
/-- A struct stored whole into the block that was made last. -/
theorem wpList_store_new {P : Program} {ops : Array Oper} {rest : List Oper} {o : Oper} {a : Act} {W : World} {Q : Exit → Act → World → Prop} (ty : TypeId) (x y : Operand) (ho : o.op = .store ty x y)
    {n : Nat} {cs : List Value} {c : Array Value} (hi : (P.info? ty).map (·.size) = some n) (hw : Region.wanted o (yielded ops a.tmps) = true) (hy : a.eval y = .agg cs.toArray) {g : Nat} (hx : a.eval x = .pointer (some ⟨g, 0, none⟩)) (hg : W.heap.size = g) (hn : cs.length = n) (h1 : ∀ v ∈ cs, v.oneCell' = true) (hc : c.size = n)
    (h : wpList P ops Q rest (a.put o.dst undef) (W.alloc (.cells cs.toArray ty))) : wpList P ops Q (o :: rest) a (W.alloc (.cells c ty)) :=
  BigFrame.wpList_want hw fun K hK => by
    subst hg
    have hr := run_storeVar_new (P := P) W ty c cs.toArray (by rw [hi]; simp [hn]) (by simp [hn, hc]) (by simpa using h1)
    unfold Oper.wp execOp
    simp only [ho, hx, hy, Instr.storeAt, Instr.sureAddr, Sem.run_bind, Sem.run_pure, Result.andThen_ok, hr]
    exact hK _ _ h
end Go.Proofs.Ytddjnabjdhlooaa
