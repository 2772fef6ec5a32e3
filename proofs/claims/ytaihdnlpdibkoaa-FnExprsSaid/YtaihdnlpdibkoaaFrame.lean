/- What the walks of the exact laws share: boxes of parameters, cells that every later world keeps. Plain: no program. -/
import Derived.Test.YtaihdnlpdibkoaaMem
import Derived.Deep.RegionHeld3
import Derived.Sort.AtCall
namespace Go.Proofs.Ytaihdnlpdibkoaa
set_option maxRecDepth 100000
open Go.RowKit

theorem below_step {n : Nat} {w W w' : World} (h : Below n w W) (hn : n ≤ w.heap.size) (hb : Below W.heap.size W w') : Below n w w' := h.trans (hb.mono (Nat.le_trans hn h.size))
theorem below_alloc {n : Nat} {w W : World} (hn : n ≤ w.heap.size) (o : Obj) (h : Below n w W) : Below n w (W.alloc o) := h.alloc (Nat.le_trans hn h.size) o
theorem boxes1 (w : World) (a : List Value) (ta : TypeId) :
    CellsAt (w.alloc (.cells a.toArray ta)) w.heap.size 0 a ∧ (w.alloc (.cells a.toArray ta)).heap.size = w.heap.size + 1 ∧ Below w.heap.size w (w.alloc (.cells a.toArray ta)) :=
  ⟨CellsAt.new w a ta, World.size_alloc _ _, (Below.refl _ _).alloc (Nat.le_refl _) _⟩
theorem boxes2 (w : World) (a b : List Value) (ta tb : TypeId) :
    CellsAt ((w.alloc (.cells a.toArray ta)).alloc (.cells b.toArray tb)) w.heap.size 0 a ∧ CellsAt ((w.alloc (.cells a.toArray ta)).alloc (.cells b.toArray tb)) (w.heap.size + 1) 0 b ∧
      ((w.alloc (.cells a.toArray ta)).alloc (.cells b.toArray tb)).heap.size = w.heap.size + 2 ∧ Below w.heap.size w ((w.alloc (.cells a.toArray ta)).alloc (.cells b.toArray tb)) := by
  obtain ⟨h1, h2, h3⟩ := boxes1 w a ta
  obtain ⟨g1, g2, g3⟩ := boxes1 (w.alloc (.cells a.toArray ta)) b tb
  rw [h2] at g1 g2 g3
  exact ⟨h1.below g3 (by omega), g1, g2, h3.trans (g3.mono (by omega))⟩
theorem boxes3 (w : World) (a b c : List Value) (ta tb tc : TypeId) :
    CellsAt (((w.alloc (.cells a.toArray ta)).alloc (.cells b.toArray tb)).alloc (.cells c.toArray tc)) w.heap.size 0 a ∧ CellsAt (((w.alloc (.cells a.toArray ta)).alloc (.cells b.toArray tb)).alloc (.cells c.toArray tc)) (w.heap.size + 1) 0 b ∧
      CellsAt (((w.alloc (.cells a.toArray ta)).alloc (.cells b.toArray tb)).alloc (.cells c.toArray tc)) (w.heap.size + 2) 0 c ∧
      (((w.alloc (.cells a.toArray ta)).alloc (.cells b.toArray tb)).alloc (.cells c.toArray tc)).heap.size = w.heap.size + 3 ∧ Below w.heap.size w (((w.alloc (.cells a.toArray ta)).alloc (.cells b.toArray tb)).alloc (.cells c.toArray tc)) := by
  obtain ⟨h1, h2, h3, h4⟩ := boxes2 w a b ta tb
  obtain ⟨g1, g2, g3⟩ := boxes1 ((w.alloc (.cells a.toArray ta)).alloc (.cells b.toArray tb)) c tc
  rw [h3] at g1 g2 g3
  exact ⟨h1.below g3 (by omega), h2.below g3 (by omega), g1, g2, h4.trans (g3.mono (by omega))⟩
/-- Behind a box of one's own: what is known of the world ahead of it is known of every later one. -/
theorem below_box {n : Nat} {w W : World} {o : Obj} (h : Below n w W) (hn : n ≤ w.heap.size) : ∀ V, Below (W.heap.size + 1) (W.alloc o) V → Below n w V := fun V hV =>
  below_step h hn (((Below.refl _ _).alloc (Nat.le_refl _) _).trans (hV.mono (by omega)))
theorem below_of_box {w V : World} {o : Obj} (h : Below (w.heap.size + 1) (w.alloc o) V) : Below w.heap.size w V := ((Below.refl _ _).alloc (Nat.le_refl _) _).trans (h.mono (by omega))
theorem cell_rule {n b : Nat} {w : World} {cs : List Value} (hc : CellsAt w b 0 cs) (hb : b < n) (i : Nat) {v : Value} (hi : cs[i]? = some v) : ∀ W : World, Below n w W → W.cell? ⟨b, i, none⟩ = some v := fun W h => by
  have := hc.below h hb i v hi
  rwa [Nat.zero_add] at this
/-- Blocks of the call's own: each once, from B on, none frozen. -/
structure Fresh (B : Nat) (w : World) (F : List Nat) : Prop where
  nodup : F.Nodup
  from_ : ∀ b ∈ F, B ≤ b
  cells : ∀ b ∈ F, ∃ cs t, w.heap[b]? = some (.cells cs t (0, 0))
theorem Fresh.nil (B : Nat) (w : World) : Fresh B w [] := ⟨by simp, by simp, by simp⟩
theorem Fresh.lt {B : Nat} {w : World} {F : List Nat} (h : Fresh B w F) : ∀ b ∈ F, b < w.heap.size := fun b hb => by
  obtain ⟨cs, t, hc⟩ := h.cells b hb
  exact (Array.getElem?_eq_some_iff.1 hc).1
theorem Fresh.keep {B : Nat} {w w' : World} {F : List Nat} (h : Fresh B w F) (hk : ∀ b ∈ F, w'.heap[b]? = w.heap[b]?) : Fresh B w' F :=
  ⟨h.nodup, h.from_, fun b hb => by rw [hk b hb]; exact h.cells b hb⟩
theorem Fresh.mono {B C : Nat} {w : World} {F : List Nat} (h : Fresh B w F) (hC : C ≤ B) : Fresh C w F := ⟨h.nodup, fun b hb => Nat.le_trans hC (h.from_ b hb), h.cells⟩
theorem Fresh.append {B C : Nat} {w : World} {F G : List Nat} (h : Fresh B w F) (g : Fresh C w G) (hF : ∀ b ∈ F, b < C) (hBC : B ≤ C) : Fresh B w (F ++ G) :=
  ⟨List.nodup_append.2 ⟨h.nodup, g.nodup, fun a ha b hb e => by have := hF a ha; have := g.from_ b hb; omega⟩,
   fun b hb => by rcases List.mem_append.1 hb with hb | hb; exact h.from_ b hb; have := g.from_ b hb; omega,
   fun b hb => by rcases List.mem_append.1 hb with hb | hb; exact h.cells b hb; exact g.cells b hb⟩
/-- One argument more has been copied into its row. -/
theorem copy_step {α : Type} {n : Nat} {R : CR α} (hR : Good n R) {w wr w2 W : World} {l : List α} {j : Nat} {x : α} {F' F2 : List Nat} {vs : List Value} {cs : Array Value} {t : TypeId} (hx : l[j]? = some x)
    (hel : ElR n R wr w.heap.size 0 (l.take j) F') (hfr : Fresh (w.heap.size + 1) wr F') (hcs : wr.heap[w.heap.size]? = some (.cells cs t (0, 0))) (hcz : cs.size = l.length * n) (hb : Below w.heap.size w wr)
    (hb2 : Below wr.heap.size wr w2) (hR2 : R w2 x vs F2) (hf2 : Fresh wr.heap.size w2 F2) (hW : W = putCells w2 w.heap.size (j * n) vs) :
    ElR n R W w.heap.size 0 (l.take (j + 1)) (F' ++ F2) ∧ Fresh (w.heap.size + 1) W (F' ++ F2) ∧ (∃ cs, W.heap[w.heap.size]? = some (.cells cs t (0, 0)) ∧ cs.size = l.length * n) ∧ Below w.heap.size w W := by
  subst hW
  have hlt := blk_lt hcs
  have hcs2 : w2.heap[w.heap.size]? = some (.cells cs t (0, 0)) := blk_below hcs hb2 hlt
  have hjl : j < l.length := (List.getElem?_eq_some_iff.1 hx).1
  have hvl := hR.len hR2
  have hmul : j * n + n ≤ l.length * n := by rw [← Nat.succ_mul]; exact Nat.mul_le_mul_right n hjl
  have hP := put_spec vs (j * n) w2 cs hcs2 (by omega)
  have hF' := hfr.lt
  have hbF' : w.heap.size ∉ F' := fun h => by have := hfr.from_ _ h; omega
  have hbF2 : w.heap.size ∉ F2 := fun h => by have := hf2.from_ _ h; omega
  have hel2 : ElR n R w2 w.heap.size 0 (l.take j) F' := ElR.frame hR (hb2.block _ hlt) hb2.size hel (fun k hk => hb2.block k (hF' k hk))
  have htl : (l.take j).length = j := by simp; omega
  refine ⟨?_, ?_, ?_, ?_⟩
  · rw [take_snoc hx]
    refine (ElR.put hR hP hcs2 hel2 (.inl (by rw [htl]; omega)) hbF').snoc (cs := vs) ?_ (hR.frame hR2 (fun k hk => hP.far k (fun e => hbF2 (e ▸ hk))) (by rw [hP.size]; exact Nat.le_refl _))
    rw [htl, Nat.zero_add]
    exact hP.cellsAt
  · have h1 : Fresh (w.heap.size + 1) (putCells w2 w.heap.size (j * n) vs) F' := hfr.keep (fun b hb' => (hP.far b (fun e => hbF' (e ▸ hb'))).trans (hb2.block b (hF' b hb')))
    have h2 : Fresh wr.heap.size (putCells w2 w.heap.size (j * n) vs) F2 := hf2.keep (fun b hb' => hP.far b (fun e => hbF2 (e ▸ hb')))
    exact h1.append h2 hF' (by omega)
  · obtain ⟨cs', h1, h2, _⟩ := hP.blk
    exact ⟨cs', h1, by omega⟩
  · exact hb.trans ((hb2.mono hb.size).trans (hP.below (Nat.le_refl _)))
/-- All arguments have been copied. -/
theorem copy_done {α : Type} {n : Nat} {R : CR α} {w wr : World} {l : List α} {F' : List Nat} {cs : Array Value} {t : TypeId} (hl : l.length ≤ maxLen) (hel : ElR n R wr w.heap.size 0 l F') (hfr : Fresh (w.heap.size + 1) wr F') (hcs : wr.heap[w.heap.size]? = some (.cells cs t (0, 0))) :
    ∃ F, SlR n R wr l (.slice (some ⟨w.heap.size, 0, none⟩) l.length l.length) F ∧ Fresh w.heap.size wr F := by
  refine ⟨if l = [] then [] else w.heap.size :: F', ⟨some ⟨w.heap.size, 0, none⟩, l.length, rfl, Nat.le_refl _, hl, ?_⟩, ?_⟩
  · by_cases h : l = []
    · rw [if_pos h]; exact .inl ⟨h, rfl⟩
    · rw [if_neg h]; exact .inr ⟨_, _, F', rfl, blk_lt hcs, rfl, hel⟩
  · by_cases h : l = []
    · rw [if_pos h]; exact Fresh.nil _ _
    · rw [if_neg h]
      refine ⟨List.nodup_cons.2 ⟨fun hm => by have := hfr.from_ _ hm; omega, hfr.nodup⟩, fun b hb => ?_, fun b hb => ?_⟩
      · rcases List.mem_cons.1 hb with rfl | hb
        · exact Nat.le_refl _
        · have := hfr.from_ b hb; omega
      · rcases List.mem_cons.1 hb with rfl | hb
        · exact ⟨cs, t, hcs⟩
        · exact hfr.cells b hb
theorem cell_at {W : World} {b i : Nat} {cs : Array Value} {t : TypeId} (h : W.heap[b]? = some (.cells cs t (0, 0))) (hi : i < cs.size) : W.cell? ⟨b, i, none⟩ = some (cs.getD i undef) := by
  rw [cell_of_row _ _ _ _ _ _ h]
  simp [Array.getD, hi]
/-- What is new from block B on stays, old blocks of one's own may turn. -/
structure Later (B : Nat) (W W' : World) : Prop where
  size : W.heap.size ≤ W'.heap.size
  block : ∀ k, B ≤ k → k < W.heap.size → W'.heap[k]? = W.heap[k]?
theorem Later.refl (B : Nat) (W : World) : Later B W W := ⟨Nat.le_refl _, fun _ _ _ => rfl⟩
theorem Later.trans {B : Nat} {a b c : World} (h : Later B a b) (g : Later B b c) : Later B a c :=
  ⟨Nat.le_trans h.size g.size, fun k hk hl => (g.block k hk (Nat.lt_of_lt_of_le hl h.size)).trans (h.block k hk hl)⟩
theorem Later.of_below {B : Nat} {W W' : World} (h : Below W.heap.size W W') : Later B W W' := ⟨h.size, fun k _ hl => h.block k hl⟩
theorem Later.of_put {B b o : Nat} {vs : List Value} {cs : Array Value} {t : TypeId} {W W' : World} (h : Put W b o vs cs t W') (hb : b < B) : Later B W W' :=
  ⟨by rw [h.size]; exact Nat.le_refl _, fun k hk _ => h.far k (by omega)⟩
theorem Fresh.below {C : Nat} {w w' : World} {F : List Nat} (h : Fresh C w F) (hb : Below w.heap.size w w') : Fresh C w' F := h.keep fun b hb' => hb.block b (h.lt b hb')
theorem Fresh.later {B C : Nat} {W W' : World} {F : List Nat} (h : Fresh C W F) (hl : Later B W W') (hB : B ≤ C) : Fresh C W' F :=
  h.keep fun b hb => hl.block b (Nat.le_trans hB (h.from_ b hb)) (h.lt b hb)
theorem Good.later {α : Type} {n B C : Nat} {R : CR α} (hR : Good n R) {W W' : World} {x : α} {cs : List Value} {F : List Nat} (h : R W x cs F) (hf : Fresh C W F) (hl : Later B W W') (hB : B ≤ C) : R W' x cs F :=
  hR.frame h (fun b hb => hl.block b (Nat.le_trans hB (hf.from_ b hb)) (hf.lt b hb)) hl.size
theorem SlR.later {α : Type} {n B C : Nat} {R : CR α} (hR : Good n R) {W W' : World} {xs : List α} {v : Value} {F : List Nat} (h : SlR n R W xs v F) (hf : Fresh C W F) (hl : Later B W W') (hB : B ≤ C) : SlR n R W' xs v F :=
  h.frame hR (fun b hb => hl.block b (Nat.le_trans hB (hf.from_ b hb)) (hf.lt b hb)) hl.size
/-- Cells stored one by one into an array that is known. -/
def setMany (cs : Array Value) : Nat → List Value → Array Value
  | _, [] => cs
  | o, v :: r => setMany (cs.setIfInBounds o v) (o + 1) r
theorem put_blk {b : Nat} {t : TypeId} : ∀ (vs : List Value) (o : Nat) (w : World) (cs : Array Value), w.heap[b]? = some (.cells cs t (0, 0)) → (putCells w b o vs).heap[b]? = some (.cells (setMany cs o vs) t (0, 0))
  | [], _, _, _, h => h
  | v :: r, o, w, cs, h => put_blk r (o + 1) (w.setCell ⟨b, o, none⟩ v) _ (heap_setCell_same w b o cs t v h)
theorem SlR.one {α : Type} {n : Nat} {R : CR α} {w : World} {xs : List α} {v : Value} {F : List Nat} (h : SlR n R w xs v F) : v.oneCell' = true := by
  obtain ⟨A, cap, rfl, _⟩ := h.form
  rfl
end Go.Proofs.Ytaihdnlpdibkoaa
