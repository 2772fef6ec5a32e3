/- A whole slice of plain things appended to an empty row inside a region that draws its order, other memory made between. Plain: no program. -/
import Derived.Test.YtaihdnlpdibkoaaRegAll
import Derived.Test.YtaihdnlpdibkoaaWhole
namespace Go.Proofs.Ytaihdnlpdibkoaa
set_option maxRecDepth 100000
open Go.RowKit
set_option linter.unusedVariables false

theorem OwnS.slr1 {α : Type} {n B : Nat} {R : CR α} {e : TypeId} {w : World} {xs : List α} {v : Value} (hR : Good n R) (h : OwnS n R B e w xs v []) : ∃ G, SlR n R w xs v G ∧ Fresh B w G ∧ ∀ k ∈ G, v.ownBlock = some k := by
  obtain ⟨⟨cl, ⟨h1, h2⟩, hel⟩, h3, h4⟩ := h
  rcases h2 with ⟨rfl, h0⟩ | ⟨g, cap, cur, rfl, hg, hb, hn, hm, hc, ht⟩
  · obtain rfl := List.length_eq_zero_iff.1 h0
    exact ⟨[], ⟨none, 0, rfl, Nat.le_refl _, by simp [maxLen], .inl ⟨rfl, rfl⟩⟩, Fresh.nil _ _, by simp⟩
  · cases xs with
    | nil => exact ⟨[], ⟨_, cap, rfl, hn, hm, .inl ⟨rfl, rfl⟩⟩, Fresh.nil _ _, by simp⟩
    | cons x r =>
      have hcat : CellsAt w g 0 cl := fun j u hu => by
        rw [cell_of_row _ _ _ _ _ _ hb, Nat.zero_add]
        rw [← ht, List.getElem?_take] at hu
        split at hu
        · simpa using hu
        · cases hu
      refine ⟨[g], ⟨_, cap, rfl, hn, hm, .inr ⟨g, 0, [], rfl, blk_lt hb, rfl, hel.toR hR hcat⟩⟩, ⟨List.nodup_cons.2 ⟨by simp, List.nodup_nil⟩, fun b hb' => ?_, fun b hb' => ?_⟩, fun k hk => ?_⟩
      · obtain rfl := List.mem_singleton.1 hb'
        exact hg
      · obtain rfl := List.mem_singleton.1 hb'
        exact ⟨cur, e, hb⟩
      · obtain rfl := List.mem_singleton.1 hk
        rfl
theorem step_all2 {α : Type} {P : Program} {ops : Array Oper} {o : Oper} {a : Act} {K : Act → World → Prop} {Q : Exit → Act → World → Prop} {E : Prop} (hgd : o.guard = none) (s x : Operand) (t e : TypeId)
    (ho : o.op = .call { callee := .builtin .append, args := #[s, x], argTypes := #[t, t] }) (ht : P.underlying t = some (.slice e)) {z : Value} {size bytes : Nat}
    (hinfo : (P.info? e).map (fun i => (i.zero, i.size, i.bytes)) = some (some z, size, bytes)) (hzs : z.cells.size = size) (hsz : 0 < size) {R : CR α} (hR : Good size R) (hp : ∀ w x cs F, R w x cs F → F = []) (h1 : ∀ w x cs F, R w x cs F → ∀ v ∈ cs, v.oneCell' = true)
    (W W2 : World) (xs : List α) (A : Option Addr) (cap : Nat) (F : List Nat) (hsl : SlR size R W xs (.slice A xs.length cap) F) (hW2 : Below (W.heap.size + 1) (W.alloc (.cells #[] e)) W2) (hs : a.eval s = .slice (some ⟨W.heap.size, 0, none⟩) 0 0) (hx : a.eval x = .slice A xs.length cap)
    (hn : xs.length ≤ 1099511627776) (hby : xs.length * bytes ≤ 140737488355328)
    (h : ∀ v' w', OwnS size R W.heap.size e w' xs v' [] → Below W.heap.size W w' → (∀ k, k < W2.heap.size → k ≠ W.heap.size → w'.heap[k]? = W2.heap[k]?) → W2.heap.size ≤ w'.heap.size → (∀ k, v'.ownBlock = some k → k = W.heap.size ∨ W2.heap.size ≤ k) → K (a.put o.dst v') w') :
    if Region.wanted o (yielded ops a.tmps) = true then Oper.wp P o a W2 K Q else E := by
  have hw : Region.wanted o (yielded ops a.tmps) = true := by simp [Region.wanted, hgd]
  rw [if_pos hw]
  obtain ⟨i0, hi, hz0, hz1, hz2⟩ := info_parts hinfo
  have hmade0 : (W.alloc (.cells #[] e)).ownsRow W.heap.size e size (.slice (some ⟨W.heap.size, 0, none⟩) 0 0) 0 [] := World.ownsRow_made W #[] 0 (Nat.le_refl _) (by simp [maxLen]) (by simp)
  have hsA : (W.alloc (.cells #[] e)).heap.size = W.heap.size + 1 := World.size_alloc _ _
  have hmade : W2.ownsRow W.heap.size e size (.slice (some ⟨W.heap.size, 0, none⟩) 0 0) 0 [] := own_below hmade0 (by rw [hsA]; exact hW2)
  obtain ⟨A', cap', hv, hl, hm, hc⟩ := hsl
  injection hv with hA' _ hcap
  subst hA' hcap
  have hbd : Below W.heap.size W W2 := ((Below.refl W.heap.size W).alloc (Nat.le_refl _) _).trans (hW2.mono (by omega))
  have hz2' := hW2.size
  match A, hc with
  | none, hc =>
    have hx0 : xs = [] := by
      rcases hc with ⟨h0, _⟩ | ⟨b, off, F', h2, _⟩
      · exact h0
      · cases h2
    subst hx0
    have hcap0 : a.eval x = .slice none 0 cap := hx
    have hrun : (Builtin.append_ #[t, t] o.type #[.slice (some ⟨W.heap.size, 0, none⟩) 0 0, .slice none 0 cap]).run P W2 = .ok (.slice (some ⟨W.heap.size, 0, none⟩) 0 0) W2 := by
      simp [Builtin.append_, run_underlying ht, sizeOf, typeInfo, hi, Builtin.lenOf, Builtin.firstCells, loadCells, loadCellsFrom, storeCells]
    have hO : OwnS size R W.heap.size e W2 ([] : List α) (.slice (some ⟨W.heap.size, 0, none⟩) 0 0) [] := ⟨⟨[], hmade, rfl, rfl⟩, Fresh.nil _ _, by simp⟩
    have hfin := h _ _ hO hbd (fun k _ _ => rfl) (Nat.le_refl _) (fun k hk => by simp only [Value.ownBlock, Option.some.injEq] at hk; exact .inl hk.symm)
    unfold Oper.wp
    simp [execOp, ho, resolve, invoke, builtin, hs, hx, hrun, Result.andThen]
    exact hfin
  | some ad, hc =>
    obtain ⟨cl, hcl, hcells, hel⟩ : ∃ cl, cl.length = xs.length * size ∧ (∀ j u, cl[j]? = some u → W2.cell? (ad.add j) = some u) ∧ ElL R W xs cl [] := by
      rcases hc with ⟨rfl, _⟩ | ⟨b, off, F', h2, hb, rfl, he⟩
      · exact ⟨[], by simp, (fun j u hu => by cases hu), rfl, rfl⟩
      · injection h2 with h2
        subst h2
        obtain ⟨cl, g1, g2, g3⟩ := he.toL hR
        have hF := g3.plain hp
        subst hF
        refine ⟨cl, g1, fun j u hu => ?_, g3⟩
        have e1 : (⟨b, off, none⟩ : Addr).add j = ⟨b, off + j, none⟩ := by
          unfold Addr.add
          split
          · rename_i h0; subst h0; rfl
          · rfl
        rw [e1]
        exact (hbd.cell (p := ⟨b, off + j, none⟩) hb).trans (g2 j u hu)
    obtain ⟨v', w', hr, h2, h3, h4⟩ := run_append_where (P := P) W2 W.heap.size t o.type e i0 z size bytes ht hi hz0 hz1 hz2 hzs hsz (.slice (some ⟨W.heap.size, 0, none⟩) 0 0) 0 [] hmade ad xs.length cap cl hcl hcells (hel.one h1) (by unfold maxLen; omega) (by rw [Nat.zero_add]; exact hby) (by omega)
    rw [Nat.zero_add, List.nil_append] at h2
    have hW : Below W.heap.size W w' := hbd.grown h3 (by omega) (fun k hk => by simp only [Value.ownBlock, Option.some.injEq] at hk; omega)
    have hO : OwnS size R W.heap.size e w' xs v' [] := ⟨⟨cl, h2, hel.frame hR hW.size (by simp)⟩, Fresh.nil _ _, by simp⟩
    have hfin := h v' w' hO hW (fun k hk hne => h3.block k hk (fun he => by simp only [Value.ownBlock, Option.some.injEq] at he; omega)) h3.size (fun k hk => by
      rcases h4 k hk with h5 | h5
      · simp only [Value.ownBlock, Option.some.injEq] at h5
        exact .inl h5.symm
      · exact .inr h5)
    revert hr
    intro hr
    unfold Oper.wp execOp
    simp only [ho, resolve, invoke, builtin, Sem.run_bind, Sem.run_pure, Result.andThen_ok, List.map_toArray, List.map_cons, List.map_nil, hs, hx, hr]
    exact hfin
theorem below_set6 {B g : Nat} {W0 w1 : World} {u0 u1 u2 u3 u4 u5 : Value} (h : Below B W0 w1) (hg : B ≤ g) : Below B W0 ((((((w1.setCell ⟨g, 0, none⟩ u0).setCell ⟨g, 1, none⟩ u1).setCell ⟨g, 2, none⟩ u2).setCell ⟨g, 3, none⟩ u3).setCell ⟨g, 4, none⟩ u4).setCell ⟨g, 5, none⟩ u5) :=
  Below.setCell (p := ⟨g, 5, none⟩) (Below.setCell (p := ⟨g, 4, none⟩) (Below.setCell (p := ⟨g, 3, none⟩) (Below.setCell (p := ⟨g, 2, none⟩) (Below.setCell (p := ⟨g, 1, none⟩) (Below.setCell (p := ⟨g, 0, none⟩) h hg u0) hg u1) hg u2) hg u3) hg u4) hg u5
theorem put_set6 {b : Nat} {w : World} {cs : Array Value} {t : TypeId} (u0 u1 u2 u3 u4 u5 : Value) (h : w.heap[b]? = some (.cells cs t (0, 0))) (hz : 6 ≤ cs.size) : Put w b 0 [u0, u1, u2, u3, u4, u5] cs t ((((((w.setCell ⟨b, 0, none⟩ u0).setCell ⟨b, 1, none⟩ u1).setCell ⟨b, 2, none⟩ u2).setCell ⟨b, 3, none⟩ u3).setCell ⟨b, 4, none⟩ u4).setCell ⟨b, 5, none⟩ u5) :=
  put_spec [u0, u1, u2, u3, u4, u5] 0 w cs h (by simpa using hz)
/-- What is known behind a box's store, of the box and of a row beside it. -/
theorem box_end {α : Type} {n : Nat} {R : CR α} (hR : Good n R) {B b : Nat} {W0 w1 wx : World} {us : List Value} {Z : Array Value} {T : TypeId} {xs : List α} {v : Value} {G : List Nat} (hP : Put w1 b 0 us Z T wx) (hb : B ≤ b) (hB2 : Below B W0 w1) (h1 : SlR n R w1 xs v G) (h2 : Fresh B w1 G) (h3 : b ∉ G) :
    (∃ old : Array Value, old.size = Z.size ∧ wx.heap[b]? = some (.cells old T (0, 0))) ∧ CellsAt wx b 0 us ∧ SlR n R wx xs v G ∧ Fresh B wx G ∧ Below B W0 wx := by
  obtain ⟨old, ho, hs, _, _⟩ := hP.blk
  have hfar : ∀ k ∈ G, wx.heap[k]? = w1.heap[k]? := fun k hk => hP.far k (fun e => h3 (e ▸ hk))
  exact ⟨⟨old, hs, ho⟩, hP.cellsAt, h1.frame hR hfar (by rw [hP.size]; exact Nat.le_refl _), h2.keep hfar, hB2.trans (hP.below hb)⟩
/-- A store into a box, inside such a region. -/
theorem step_store {P : Program} {ops : Array Oper} {o : Oper} {a : Act} {w : World} {K : Act → World → Prop} {Q : Exit → Act → World → Prop} {E : Prop} (hgd : o.guard = none) (ty : TypeId) (x y : Operand) (ho : o.op = .store ty x y)
    {n : Nat} {cs : List Value} {v : Value} (hv : v.cells = cs.toArray) (hi : (P.info? ty).map (·.size) = some n) (hy : a.eval y = v) {g off : Nat} (hx : a.eval x = .pointer (some ⟨g, off, none⟩)) (hn : cs.length = n) (h1 : ∀ v ∈ cs, v.oneCell' = true)
    {old : Array Value} {t : TypeId} (hg : w.heap[g]? = some (.cells old t (0, 0))) (hfit : off + n ≤ old.size)
    (h : ∀ w', Put w g off cs old t w' → K (a.put o.dst undef) w') : if Region.wanted o (yielded ops a.tmps) = true then Oper.wp P o a w K Q else E := by
  have hw : Region.wanted o (yielded ops a.tmps) = true := by simp [Region.wanted, hgd]
  rw [if_pos hw]
  subst hn
  have hst := run_storeCells_at P g off t cs 0 old w hg (by simpa using hfit) h1
  simp only [Nat.add_zero] at hst
  have hr : (storeVar ty ⟨g, off, none⟩ v).run P w = .ok () (w.setRow g (old.toList.take off ++ cs ++ old.toList.drop (off + cs.length)).toArray) := by
    cases hq : P.info? ty with
    | none => simp [hq] at hi
    | some i =>
      have hs : i.size = cs.length := by simpa [hq] using hi
      simp [storeVar, sizeOf, typeInfo, hq, hv, hs, hst]
  unfold Oper.wp execOp
  simp only [ho, hx, hy, Instr.storeAt, Instr.sureAddr, Sem.run_bind, Sem.run_pure, Result.andThen_ok, hr]
  exact h _ (Put.of_row hg hfit)
end Go.Proofs.Ytaihdnlpdibkoaa
