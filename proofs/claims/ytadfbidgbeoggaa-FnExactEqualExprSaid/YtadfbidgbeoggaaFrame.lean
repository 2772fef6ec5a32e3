/- What the walks of the exact laws share: boxes of parameters, cells that every later world keeps. Plain: no program. -/
import Derived.Test.YtadfbidgbeoggaaMem
import Derived.Deep.RegionHeld3
import Derived.Sort.AtCall
namespace Go.Proofs.Ytadfbidgbeoggaa
open Go.RowKit

theorem below_step {n : Nat} {w W w' : World} (h : Below n w W) (hn : n ≤ w.heap.size) (hb : Below W.heap.size W w') : Below n w w' := h.trans (hb.mono (Nat.le_trans hn h.size))
theorem below_alloc {n : Nat} {w W : World} (hn : n ≤ w.heap.size) (o : Obj) (h : Below n w W) : Below n w (W.alloc o) := h.alloc (Nat.le_trans hn h.size) o
theorem boxes1 (w : World) (a : List Value) (ta : TypeId) :
    CellsAt (w.alloc (.cells a.toArray ta)) w.heap.size 0 a ∧ (w.alloc (.cells a.toArray ta)).heap.size = w.heap.size + 1 ∧ Below w.heap.size w (w.alloc (.cells a.toArray ta)) :=
  ⟨CellsAt.new w a ta, World.size_alloc _ _, (Below.refl _ _).alloc (Nat.le_refl _) _⟩
theorem boxes2 (w : World) (a b : List Value) (ta tb : TypeId) :
    CellsAt ((w.alloc (.cells a.toArray ta)).alloc (.cells b.toArray tb)) w.heap.size 0 a ∧ CellsAt ((w.alloc (.cells a.toArray ta)).alloc (.cells b.toArray tb)) (w.heap.size + 1) 0 b ∧
      ((w.alloc (.cells a.toArray ta)).alloc (.cells b.toArray tb)).heap.size = w.heap.size + 2 ∧ Below w.heap.size w ((w.alloc (.cells a.toArray ta)).alloc (.cells b.toArray tb)) := by
  obtain ⟨h1, h2, h3⟩ := boxes1 w a ta
  obtain ⟨g1, g2, g3⟩ := boxes1 (w.alloc (.cells a.toArray ta)) b tb
  rw [h2] at g1 g2 g3
  exact ⟨h1.below g3 (by omega), g1, g2, h3.trans (g3.mono (by omega))⟩
theorem boxes3 (w : World) (a b c : List Value) (ta tb tc : TypeId) :
    CellsAt (((w.alloc (.cells a.toArray ta)).alloc (.cells b.toArray tb)).alloc (.cells c.toArray tc)) w.heap.size 0 a ∧ CellsAt (((w.alloc (.cells a.toArray ta)).alloc (.cells b.toArray tb)).alloc (.cells c.toArray tc)) (w.heap.size + 1) 0 b ∧
      CellsAt (((w.alloc (.cells a.toArray ta)).alloc (.cells b.toArray tb)).alloc (.cells c.toArray tc)) (w.heap.size + 2) 0 c ∧
      (((w.alloc (.cells a.toArray ta)).alloc (.cells b.toArray tb)).alloc (.cells c.toArray tc)).heap.size = w.heap.size + 3 ∧ Below w.heap.size w (((w.alloc (.cells a.toArray ta)).alloc (.cells b.toArray tb)).alloc (.cells c.toArray tc)) := by
  obtain ⟨h1, h2, h3, h4⟩ := boxes2 w a b ta tb
  obtain ⟨g1, g2, g3⟩ := boxes1 ((w.alloc (.cells a.toArray ta)).alloc (.cells b.toArray tb)) c tc
  rw [h3] at g1 g2 g3
  exact ⟨h1.below g3 (by omega), h2.below g3 (by omega), g1, g2, h4.trans (g3.mono (by omega))⟩
/-- Behind a box of one's own: what is known of the world ahead of it is known of every later one. -/
theorem below_box {n : Nat} {w W : World} {o : Obj} (h : Below n w W) (hn : n ≤ w.heap.size) : ∀ V, Below (W.heap.size + 1) (W.alloc o) V → Below n w V := fun V hV =>
  below_step h hn (((Below.refl _ _).alloc (Nat.le_refl _) _).trans (hV.mono (by omega)))
theorem below_of_box {w V : World} {o : Obj} (h : Below (w.heap.size + 1) (w.alloc o) V) : Below w.heap.size w V := ((Below.refl _ _).alloc (Nat.le_refl _) _).trans (h.mono (by omega))
theorem cell_rule {n b : Nat} {w : World} {cs : List Value} (hc : CellsAt w b 0 cs) (hb : b < n) (i : Nat) {v : Value} (hi : cs[i]? = some v) : ∀ W : World, Below n w W → W.cell? ⟨b, i, none⟩ = some v := fun W h => by
  have := hc.below h hb i v hi
  rwa [Nat.zero_add] at this
end Go.Proofs.Ytadfbidgbeoggaa
