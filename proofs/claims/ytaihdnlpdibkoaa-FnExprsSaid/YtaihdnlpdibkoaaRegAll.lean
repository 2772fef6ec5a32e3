/- A whole slice of plain things appended to an empty row, inside a region that draws its order. Plain: no program. -/
import Derived.Test.YtaihdnlpdibkoaaBox
import Derived.Deep.RegionHeld3
namespace Go.Proofs.Ytaihdnlpdibkoaa
set_option maxRecDepth 100000
open Go.RowKit

theorem step_all {α : Type} {P : Program} {ops : Array Oper} {o : Oper} {a : Act} {K : Act → World → Prop} {Q : Exit → Act → World → Prop} {E : Prop} (hgd : o.guard = none) (s x : Operand) (t e : TypeId)
    (ho : o.op = .call { callee := .builtin .append, args := #[s, x], argTypes := #[t, t] }) (ht : P.underlying t = some (.slice e)) {z : Value} {size bytes : Nat}
    (hinfo : (P.info? e).map (fun i => (i.zero, i.size, i.bytes)) = some (some z, size, bytes)) (hzs : z.cells.size = size) (hsz : 0 < size) {R : CR α} (hR : Good size R) (hp : ∀ w x cs F, R w x cs F → F = []) (h1 : ∀ w x cs F, R w x cs F → ∀ v ∈ cs, v.oneCell' = true)
    (W : World) (xs : List α) (A : Option Addr) (cap : Nat) (F : List Nat) (hsl : SlR size R W xs (.slice A xs.length cap) F) (hs : a.eval s = .slice (some ⟨W.heap.size, 0, none⟩) 0 0) (hx : a.eval x = .slice A xs.length cap)
    (hn : xs.length ≤ 1099511627776) (hby : xs.length * bytes ≤ 140737488355328)
    (h : ∀ v' w', (∃ G, SlR size R w' xs v' G ∧ Fresh W.heap.size w' G) → Below W.heap.size W w' → K (a.put o.dst v') w') : if Region.wanted o (yielded ops a.tmps) = true then Oper.wp P o a (W.alloc (.cells #[] e)).drew K Q else E := by
  have hw : Region.wanted o (yielded ops a.tmps) = true := by simp [Region.wanted, hgd]
  rw [if_pos hw]
  obtain ⟨i0, hi, hz0, hz1, hz2⟩ := info_parts hinfo
  have hmade0 : (W.alloc (.cells #[] e)).ownsRow W.heap.size e size (.slice (some ⟨W.heap.size, 0, none⟩) 0 0) 0 [] := World.ownsRow_made W #[] 0 (Nat.le_refl _) (by simp [maxLen]) (by simp)
  have hmade : (W.alloc (.cells #[] e)).drew.ownsRow W.heap.size e size (.slice (some ⟨W.heap.size, 0, none⟩) 0 0) 0 [] := own_below hmade0 (Below.refl _ _).drew
  obtain ⟨A', cap', hv, hl, hm, hc⟩ := hsl
  injection hv with hA' _ hcap
  subst hA' hcap
  have hbd : Below W.heap.size W (W.alloc (.cells #[] e)).drew := ((Below.refl W.heap.size W).alloc (Nat.le_refl _) _).drew
  match A, hc with
  | none, hc =>
    have hx0 : xs = [] := by
      rcases hc with ⟨h0, _⟩ | ⟨b, off, F', h2, _⟩
      · exact h0
      · cases h2
    subst hx0
    have hcap0 : a.eval x = .slice none 0 cap := hx
    have hrun : (Builtin.append_ #[t, t] o.type #[.slice (some ⟨W.heap.size, 0, none⟩) 0 0, .slice none 0 cap]).run P (W.alloc (.cells #[] e)).drew = .ok (.slice (some ⟨W.heap.size, 0, none⟩) 0 0) (W.alloc (.cells #[] e)).drew := by
      simp [Builtin.append_, run_underlying ht, sizeOf, typeInfo, hi, Builtin.lenOf, Builtin.firstCells, loadCells, loadCellsFrom, storeCells]
    unfold Oper.wp
    simp [execOp, ho, resolve, invoke, builtin, hs, hx, hrun, Result.andThen]
    exact h _ _ ⟨[], ⟨_, 0, rfl, Nat.le_refl _, by simp [maxLen], .inl ⟨rfl, rfl⟩⟩, Fresh.nil _ _⟩ hbd
  | some ad, hc =>
    obtain ⟨cl, hcl, hcells, hel⟩ : ∃ cl, cl.length = xs.length * size ∧ (∀ j u, cl[j]? = some u → (W.alloc (.cells #[] e)).drew.cell? (ad.add j) = some u) ∧ ElL R W xs cl [] := by
      rcases hc with ⟨rfl, _⟩ | ⟨b, off, F', h2, hb, rfl, he⟩
      · exact ⟨[], by simp, (fun j u hu => by cases hu), rfl, rfl⟩
      · injection h2 with h2
        subst h2
        obtain ⟨cl, g1, g2, g3⟩ := he.toL hR
        have hF := g3.plain hp
        subst hF
        refine ⟨cl, g1, fun j u hu => ?_, g3⟩
        have e1 : (⟨b, off, none⟩ : Addr).add j = ⟨b, off + j, none⟩ := by
          unfold Addr.add
          split
          · rename_i h0; subst h0; rfl
          · rfl
        rw [e1]
        exact (hbd.cell (p := ⟨b, off + j, none⟩) hb).trans (g2 j u hu)
    refine wp_append_own _ s x t ho W.heap.size e i0 z size bytes ht hi hz0 hz1 hz2 hzs hsz _ 0 [] hs hmade ad xs.length cap cl hx hcl hcells (hel.one h1) (by unfold maxLen; omega) (by rw [Nat.zero_add]; exact hby) (by simp) ?_
    intro v' w' h2 h3 _
    rw [Nat.zero_add, List.nil_append] at h2
    have hW : Below W.heap.size W w' := hbd.grown h3 (by simp) (fun k hk => by simp only [Value.ownBlock, Option.some.injEq] at hk; omega)
    have hO : OwnS size R W.heap.size e w' xs v' [] := ⟨⟨cl, h2, hel.frame hR hW.size (by simp)⟩, Fresh.nil _ _, by simp⟩
    exact h v' w' (hO.slr hR) hW
theorem below_set2 {B g : Nat} {W0 w1 : World} {u v : Value} (h : Below B W0 w1) (hg : B ≤ g) : Below B W0 ((w1.setCell ⟨g, 0, none⟩ u).setCell ⟨g, 1, none⟩ v) :=
  Below.setCell (p := ⟨g, 1, none⟩) (Below.setCell (p := ⟨g, 0, none⟩) h hg u) hg v
end Go.Proofs.Ytaihdnlpdibkoaa
