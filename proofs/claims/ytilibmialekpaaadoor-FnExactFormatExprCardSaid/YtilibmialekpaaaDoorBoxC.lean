/- A struct's box that is laid anywhere among a region's calls: what is known of it. Plain. -/
import Derived.Test.YtilibmialekpaaaDoorBox
import Derived.Deep.RegionHeld3
namespace Go.Proofs.YtilibmialekpaaaDoor
set_option maxRecDepth 100000
open Go.RowKit
theorem xbox {X W : World} {z : Array Value} {T : TypeId} (hb : Below (X.alloc (.cells z T)).heap.size (X.alloc (.cells z T)) W) : W.heap[X.heap.size]? = some (.cells z T (0, 0)) ∧ X.heap.size < W.heap.size :=
  ⟨blk_below (heap_alloc_new X _) hb (by simp), by have := hb.size; simp at this; omega⟩
theorem xboxd {X W : World} {z : Array Value} {T : TypeId} (hb : Below (X.alloc (.cells z T)).drew.heap.size (X.alloc (.cells z T)).drew W) : W.heap[X.heap.size]? = some (.cells z T (0, 0)) ∧ X.heap.size < W.heap.size :=
  xbox (X := X) (((Below.refl _ (X.alloc (.cells z T))).drew).trans hb)
theorem xcarry {W W' : World} {b : Nat} {z : Array Value} {T : TypeId} (h : W.heap[b]? = some (.cells z T (0, 0)) ∧ b < W.heap.size) (hb : Below W.heap.size W W') : W'.heap[b]? = some (.cells z T (0, 0)) ∧ b < W'.heap.size :=
  ⟨blk_below h.1 hb h.2, Nat.lt_of_lt_of_le h.2 hb.size⟩
theorem xdrew_heap (W : World) : W.drew.heap = W.heap := rfl
theorem below_putc {B g : Nat} {W0 : World} : ∀ (vs : List Value) (o : Nat) (w1 : World), Below B W0 w1 → B ≤ g → Below B W0 (putCells w1 g o vs)
  | [], _, _, h, _ => h
  | v :: r, o, w1, h, hg => below_putc r (o + 1) _ (Below.setCell (p := ⟨g, o, none⟩) h hg v) hg
theorem below_set7 {B g : Nat} {W0 w1 : World} {u0 u1 u2 u3 u4 u5 u6 : Value} (h : Below B W0 w1) (hg : B ≤ g) : Below B W0 (((((((w1.setCell ⟨g, 0, none⟩ u0).setCell ⟨g, 1, none⟩ u1).setCell ⟨g, 2, none⟩ u2).setCell ⟨g, 3, none⟩ u3).setCell ⟨g, 4, none⟩ u4).setCell ⟨g, 5, none⟩ u5).setCell ⟨g, 6, none⟩ u6) :=
  Below.setCell (p := ⟨g, 6, none⟩) (Below.setCell (p := ⟨g, 5, none⟩) (Below.setCell (p := ⟨g, 4, none⟩) (Below.setCell (p := ⟨g, 3, none⟩) (Below.setCell (p := ⟨g, 2, none⟩) (Below.setCell (p := ⟨g, 1, none⟩) (Below.setCell (p := ⟨g, 0, none⟩) h hg u0) hg u1) hg u2) hg u3) hg u4) hg u5) hg u6
theorem put_set7 {b : Nat} {w : World} {cs : Array Value} {t : TypeId} (u0 u1 u2 u3 u4 u5 u6 : Value) (h : w.heap[b]? = some (.cells cs t (0, 0))) (hz : 7 ≤ cs.size) : Put w b 0 [u0, u1, u2, u3, u4, u5, u6] cs t (((((((w.setCell ⟨b, 0, none⟩ u0).setCell ⟨b, 1, none⟩ u1).setCell ⟨b, 2, none⟩ u2).setCell ⟨b, 3, none⟩ u3).setCell ⟨b, 4, none⟩ u4).setCell ⟨b, 5, none⟩ u5).setCell ⟨b, 6, none⟩ u6) :=
  put_spec [u0, u1, u2, u3, u4, u5, u6] 0 w cs h (by simpa using hz)
theorem store1 (P : Program) {b i : Nat} {w : World} {cs : Array Value} {t : TypeId} (u : Value) (h : w.heap[b]? = some (.cells cs t (0, 0))) (hi : i < cs.size) (hu : u.oneCell' = true) :
    (∃ cs' : Array Value, cs'.size = cs.size ∧ (w.setCell ⟨b, i, none⟩ u).heap[b]? = some (.cells cs' t (0, 0))) ∧ ∀ m, (store ⟨b, i, none⟩ u m).run P w = .ok () (w.setCell ⟨b, i, none⟩ u) := by
  refine ⟨?_, fun m => ?_⟩
  · have h1 := put_blk [u] i w cs h
    exact ⟨setMany cs i [u], by simp [setMany], h1⟩
  · rw [run_store P w _ u m hu]
    have hc : w.cell? ⟨b, i, none⟩ = some cs[i] := by simp [World.cell?, h, hi]
    have hf : w.frozen? ⟨b, i, none⟩ = false := frozen_of_row w b i cs t h
    rw [hc]
    simp [hf]
theorem store7 (P : Program) {b : Nat} {w : World} {cs : Array Value} {t : TypeId} (u0 u1 u2 u3 u4 u5 u6 : Value) (h : w.heap[b]? = some (.cells cs t (0, 0))) (hz : 7 ≤ cs.size) (hu : ∀ u ∈ [u0, u1, u2, u3, u4, u5, u6], u.oneCell' = true) :
    ∃ w1 w2 w3 w4 w5 w6 w7 : World, (∀ m, (store ⟨b, 0, none⟩ u0 m).run P w = .ok () w1) ∧ (∀ m, (store ⟨b, 1, none⟩ u1 m).run P w1 = .ok () w2) ∧ (∀ m, (store ⟨b, 2, none⟩ u2 m).run P w2 = .ok () w3) ∧ (∀ m, (store ⟨b, 3, none⟩ u3 m).run P w3 = .ok () w4) ∧ (∀ m, (store ⟨b, 4, none⟩ u4 m).run P w4 = .ok () w5) ∧ (∀ m, (store ⟨b, 5, none⟩ u5 m).run P w5 = .ok () w6) ∧ (∀ m, (store ⟨b, 6, none⟩ u6 m).run P w6 = .ok () w7) ∧ Put w b 0 [u0, u1, u2, u3, u4, u5, u6] cs t w7 := by
  obtain ⟨⟨c0, z0, g0⟩, s0⟩ := store1 P (i := 0) u0 h (by omega) (hu u0 (by simp))
  obtain ⟨⟨c1, z1, g1⟩, s1⟩ := store1 P (i := 1) u1 g0 (by omega) (hu u1 (by simp))
  obtain ⟨⟨c2, z2, g2⟩, s2⟩ := store1 P (i := 2) u2 g1 (by omega) (hu u2 (by simp))
  obtain ⟨⟨c3, z3, g3⟩, s3⟩ := store1 P (i := 3) u3 g2 (by omega) (hu u3 (by simp))
  obtain ⟨⟨c4, z4, g4⟩, s4⟩ := store1 P (i := 4) u4 g3 (by omega) (hu u4 (by simp))
  obtain ⟨⟨c5, z5, g5⟩, s5⟩ := store1 P (i := 5) u5 g4 (by omega) (hu u5 (by simp))
  obtain ⟨⟨c6, z6, g6⟩, s6⟩ := store1 P (i := 6) u6 g5 (by omega) (hu u6 (by simp))
  exact ⟨_, _, _, _, _, _, _, s0, s1, s2, s3, s4, s5, s6, put_set7 u0 u1 u2 u3 u4 u5 u6 h hz⟩
theorem two_new0 (W : World) (Z : Array Value) (T : TypeId) : (((W.alloc (.cells Z T)).alloc (.cells Z T)).drew).heap[W.heap.size]? = some (.cells Z T (0, 0)) :=
  blk_below (heap_alloc_new W (.cells Z T)) (((Below.refl _ (W.alloc (.cells Z T))).alloc (Nat.le_refl _) (.cells Z T)).drew) (by simp)
theorem two_new1 (W : World) (Z : Array Value) (T : TypeId) : (((W.alloc (.cells Z T)).alloc (.cells Z T)).drew).heap[W.heap.size + 1]? = some (.cells Z T (0, 0)) := by
  have h := heap_alloc_new (W.alloc (.cells Z T)) (.cells Z T)
  rw [World.size_alloc] at h
  exact h
theorem store77 (P : Program) {g h : Nat} {w : World} {cs cs' : Array Value} {t t' : TypeId} (u0 u1 u2 u3 u4 u5 u6 v0 v1 v2 v3 v4 v5 v6 : Value) (h0 : w.heap[g]? = some (.cells cs t (0, 0))) (h1 : w.heap[h]? = some (.cells cs' t' (0, 0)))
    (hz : 7 ≤ cs.size) (hz' : 7 ≤ cs'.size) (hne : g ≠ h) (hu : ∀ u ∈ [u0, u1, u2, u3, u4, u5, u6], u.oneCell' = true) (hv : ∀ u ∈ [v0, v1, v2, v3, v4, v5, v6], u.oneCell' = true) :
    ∃ w1 w2 w3 w4 w5 w6 w7 w8 w9 w10 w11 w12 w13 w14 : World, (∀ m, (store ⟨g, 0, none⟩ u0 m).run P w = .ok () w1) ∧ (∀ m, (store ⟨g, 1, none⟩ u1 m).run P w1 = .ok () w2) ∧ (∀ m, (store ⟨g, 2, none⟩ u2 m).run P w2 = .ok () w3) ∧ (∀ m, (store ⟨g, 3, none⟩ u3 m).run P w3 = .ok () w4) ∧ (∀ m, (store ⟨g, 4, none⟩ u4 m).run P w4 = .ok () w5) ∧ (∀ m, (store ⟨g, 5, none⟩ u5 m).run P w5 = .ok () w6) ∧ (∀ m, (store ⟨g, 6, none⟩ u6 m).run P w6 = .ok () w7) ∧ (∀ m, (store ⟨h, 0, none⟩ v0 m).run P w7 = .ok () w8) ∧ (∀ m, (store ⟨h, 1, none⟩ v1 m).run P w8 = .ok () w9) ∧ (∀ m, (store ⟨h, 2, none⟩ v2 m).run P w9 = .ok () w10) ∧ (∀ m, (store ⟨h, 3, none⟩ v3 m).run P w10 = .ok () w11) ∧ (∀ m, (store ⟨h, 4, none⟩ v4 m).run P w11 = .ok () w12) ∧ (∀ m, (store ⟨h, 5, none⟩ v5 m).run P w12 = .ok () w13) ∧ (∀ m, (store ⟨h, 6, none⟩ v6 m).run P w13 = .ok () w14) ∧
      (∀ B, B ≤ g → B ≤ h → Below B w w7) ∧ CellsAt w14 g 0 [u0, u1, u2, u3, u4, u5, u6] ∧ CellsAt w14 h 0 [v0, v1, v2, v3, v4, v5, v6] ∧ w14.heap.size = w.heap.size ∧ (∀ B, B ≤ g → B ≤ h → Below B w w14) := by
  obtain ⟨w1, w2, w3, w4, w5, w6, w7, s0, s1, s2, s3, s4, s5, s6, hP⟩ := store7 P u0 u1 u2 u3 u4 u5 u6 h0 hz hu
  have h2 : w7.heap[h]? = some (.cells cs' t' (0, 0)) := (hP.far h (Ne.symm hne)).trans h1
  obtain ⟨w8, w9, w10, w11, w12, w13, w14, s7, s8, s9, s10, s11, s12, s13, hQ⟩ := store7 P v0 v1 v2 v3 v4 v5 v6 h2 hz' hv
  have hc := hP.cellsAt
  refine ⟨w1, w2, w3, w4, w5, w6, w7, w8, w9, w10, w11, w12, w13, w14, s0, s1, s2, s3, s4, s5, s6, s7, s8, s9, s10, s11, s12, s13, fun B b1 b2 => hP.below b1, fun j u hj => ?_, hQ.cellsAt, hQ.size.trans hP.size, fun B b1 b2 => (hP.below b1).trans (hQ.below b2)⟩
  have hk : w14.heap[g]? = w7.heap[g]? := hQ.far g hne
  have h3 := hc j u hj
  simp only [World.cell?] at h3 ⊢
  rw [hk]
  exact h3
end Go.Proofs.YtilibmialekpaaaDoor
