/- Expressions: copies into new memory. Conditions: no argument list is longer than 2^20. -/
import Derived.Test.YtaihdnlpdibkoaaExHelp
import Derived.Test.YtaihdnlpdibkoaaFrame
namespace Go.Proofs.Ytaihdnlpdibkoaa
set_option maxRecDepth 100000
open Go.RowKit Go.WideShapes

/-- Argument lists that are not too long. -/
def slim : Nat → Ex → Prop
  | 0, _ => True
  | d + 1, e => e.args.length ≤ 1048576 ∧ ∀ x ∈ e.args, slim d x
def ToE (d : Nat) : Prop := ∀ (e : Ex) (cs : List Value) (F : List Nat) (w : World), ExR d w e cs F → slim d e →
  Calls Try.prog 17 #[.agg cs.toArray] w fun en w' => ∃ A cap F', en = .returned (.agg #[.int .i64 e.h.kind, .int .i64 e.h.n, .int .i64 e.h.pos, .int .i64 e.h.type, .string e.h.symbol, .string e.h.name, .slice A e.args.length cap]) ∧ ExR d w' e (e.h.cells (.slice A e.args.length cap)) F' ∧ Fresh w.heap.size w' F' ∧ Below w.heap.size w w'
theorem l_toExprS {d : Nat} (hE : ToE d) (l : List Ex) (A : Option Addr) (cap : Nat) (F : List Nat) (w : World) (hs : SlR 7 (ExR d) w l (.slice A l.length cap) F) (hl : l.length ≤ 1048576) (hsl : ∀ x ∈ l, slim d x) :
    Calls Try.prog 57 #[.slice A l.length cap] w fun en w' => ∃ A' cap' F', en = .returned (.slice A' l.length cap') ∧ SlR 7 (ExR d) w' l (.slice A' l.length cap') F' ∧ Fresh w.heap.size w' F' ∧ Below w.heap.size w w' := by
  have HF := hide (hs.lt (ExR.good d))
  have Hs := hide hs
  have HE := hide hE
  have Hsl := hide hsl
  clear hs hE hsl
  have hmk := fun W => run_make_rowN' (P := Try.prog) 50 52 (.agg #[.int .i64 0, .int .i64 0, .int .i64 0, .int .i64 0, .string ByteArray.empty, .string ByteArray.empty, .slice none 0 0]) 7 88 Try.underlying50 (by kernel_rfl) .i64 .i64 l.length (by omega) (by omega) W
  go_enter Try.func57, Try.ntmps57
  go_wp2_with fail
  go_loopw [4] (fun i wr => ∃ (j : Nat) (F' : List Nat), j ≤ l.length ∧ i = .int .i64 j ∧ Hid (ElR 7 (ExR d) wr w.heap.size 0 (l.take j) F') ∧ Hid (Fresh (w.heap.size + 1) wr F') ∧ Hid (∃ cs, wr.heap[w.heap.size]? = some (.cells cs 52 (0, 0)) ∧ cs.size = l.length * 7) ∧ Hid (Below w.heap.size w wr)) (fun i _ => l.length - (intOf i).toNat)
  case atStart => exact ⟨0, [], by omega, rfl, hide rfl, hide (Fresh.nil _ _), hide ⟨_, heap_alloc_new w _, by simp [madeCells]⟩, hide ((Below.refl _ _).alloc (Nat.le_refl _) _)⟩
  case round =>
    obtain ⟨j, F', hj, rfl, Hel, Hfr, Hbk, Hb⟩ := hrel
    by_cases hlt : j < l.length
    · have hx : l[j]? = some l[j] := List.getElem?_eq_getElem hlt
      generalize l[j] = x at hx
      have Hx := hide hx
      obtain ⟨b, off, A', cap', Fk, hA, hbF, hFk, _, hl', hm', hcat, hR⟩ := ex_get (Hs.out.below (ExR.good d) Hb.out HF.out) hx
      subst hA
      obtain ⟨e0, e1, e2, e3, e4, e5, e6⟩ := hcat.seven
      have hblt := Nat.lt_of_lt_of_le (HF.out b hbF) Hb.out.size
      have HR := hide hR
      have hbz := Hb.out.size
      clear hx hR hcat hFk hbF hl' hm'
      go_wp2_with fail
      refine Calls.mono (HE.out x _ Fk _ HR.out (Hsl.out x (List.mem_of_getElem? Hx.out))) ?_
      rintro en w2 ⟨A2, cap2, F2, rfl, hR2, hf2, hb2⟩
      obtain ⟨cs, hcs, hcz⟩ := Hbk.out
      have hcs2 : w2.heap[w.heap.size]? = some (.cells cs 52 (0, 0)) := blk_below hcs hb2 (blk_lt hcs)
      obtain ⟨v0, v1, v2, v3, v4, v5, v6, ⟨q0, q1, q2, q3, q4, q5, q6⟩, g0, g1, g2, g3, g4, g5, g6⟩ := cells7_of (o := j * 7) hcs2 (by omega)
      have HB2 := hide hb2
      have HR2 := hide hR2
      have Hf2 := hide hf2
      have Hcs0 := hide hcs
      clear hb2 hR2 hf2 hcs hcs2
      go_wp2_with fail
      have hst := copy_step (w := w) (ExR.good d) Hx.out Hel.out Hfr.out Hcs0.out hcz Hb.out HB2.out HR2.out Hf2.out rfl
      exact ⟨⟨j + 1, F' ++ F2, by omega, by go_num, hide hst.1, hide hst.2.1, hide hst.2.2.1, hide hst.2.2.2⟩, by simp [intOf]; omega⟩
    · have hjl : j = l.length := by omega
      subst hjl
      have Hel' : Hid (ElR 7 (ExR d) wr w.heap.size 0 l F') := by have := Hel.out; rw [List.take_length] at this; exact hide this
      go_wp2_with fail
      go_ret
      obtain ⟨cs, hcs, _⟩ := Hbk.out
      obtain ⟨G, hG, hGf⟩ := copy_done (w := w) (by unfold maxLen; omega) Hel'.out Hfr.out hcs
      exact ⟨_, _, G, rfl, hG, hGf, Hb.out⟩

set_option maxRecDepth 100000 in
theorem l_toExpr : ∀ d, ToE d
  | 0 => fun _ _ _ _ h _ => h.elim
  | d + 1 => fun e cs F w h hslim => by
    obtain ⟨A, cap, rfl, hok, hl, hm, hs⟩ := ex_form h
    have HF := hide (hs.lt (ExR.good d))
    obtain ⟨⟨k, n, p, t, s, m⟩, l⟩ := e
    simp only [Ex.args] at hs hl HF
    have hsl1 : l.length ≤ 1048576 := hslim.1
    have Hsl2 : Hid (∀ x ∈ l, slim d x) := hide hslim.2
    have HC := hide (CellsAt.new w [.int .i64 k, .int .i64 n, .int .i64 p, .int .i64 t, .string s, .string m, .slice A l.length cap] 46)
    have HS : Hid (∀ W : World, Below w.heap.size w W → Calls Try.prog 57 #[.slice A l.length cap] W fun en w' => ∃ A' cap' F', en = .returned (.slice A' l.length cap') ∧ SlR 7 (ExR d) w' l (.slice A' l.length cap') F' ∧ Fresh W.heap.size w' F' ∧ Below W.heap.size W w') := hide fun W hW =>
      l_toExprS (l_toExpr d) l A cap F W (hs.below (ExR.good d) hW HF.out) hsl1 Hsl2.out
    have Hok := hide hok
    show Calls _ _ #[.agg #[.int .i64 k, .int .i64 n, .int .i64 p, .int .i64 t, .string s, .string m, .slice A l.length cap]] w _
    clear hs h hok hslim
    go_enter Try.func17, Try.ntmps17
    go_wp2_with fail
    have hW : Below w.heap.size w (((w.alloc (.cells #[.int .i64 k, .int .i64 n, .int .i64 p, .int .i64 t, .string s, .string m, .slice A l.length cap] 46)).alloc (.cells #[.int .i64 0, .int .i64 0, .int .i64 0, .int .i64 0, .string ⟨#[]⟩, .string ⟨#[]⟩, .slice none 0 0] 52)).alloc (.cells #[.int .i64 k, .int .i64 n, .int .i64 p, .int .i64 t, .string s, .string m, .slice none 0 0] 52)) := (((Below.refl _ _).alloc (Nat.le_refl _) _).alloc (by simp) _).alloc (by simp; omega) _
    refine Calls.mono (HS.out _ hW) ?_
    rintro en w2 ⟨A2, cap2, F2, rfl, hs2, hf2, hb2⟩
    have hz2 := hb2.size
    simp only [World.size_alloc] at hb2 hf2 hz2
    have hB1 : w2.heap[w.heap.size + 1]? = some (.cells #[.int .i64 0, .int .i64 0, .int .i64 0, .int .i64 0, .string ⟨#[]⟩, .string ⟨#[]⟩, .slice none 0 0] 52 (0, 0)) := (hb2.block _ (by omega)).trans ((Below.heap_alloc _ _ (w.heap.size + 1) (by simp)).trans (by have := heap_alloc_new (w.alloc (.cells #[.int .i64 k, .int .i64 n, .int .i64 p, .int .i64 t, .string s, .string m, .slice A l.length cap] 46)) (.cells #[.int .i64 0, .int .i64 0, .int .i64 0, .int .i64 0, .string ⟨#[]⟩, .string ⟨#[]⟩, .slice none 0 0] 52); simpa using this))
    have hB2 : w2.heap[w.heap.size + 1 + 1]? = some (.cells #[.int .i64 k, .int .i64 n, .int .i64 p, .int .i64 t, .string s, .string m, .slice none 0 0] 52 (0, 0)) := (hb2.block _ (by omega)).trans (by have := heap_alloc_new ((w.alloc (.cells #[.int .i64 k, .int .i64 n, .int .i64 p, .int .i64 t, .string s, .string m, .slice A l.length cap] 46)).alloc (.cells #[.int .i64 0, .int .i64 0, .int .i64 0, .int .i64 0, .string ⟨#[]⟩, .string ⟨#[]⟩, .slice none 0 0] 52)) (.cells #[.int .i64 k, .int .i64 n, .int .i64 p, .int .i64 t, .string s, .string m, .slice none 0 0] 52); simpa using this)
    obtain ⟨_, _, _, _, _, _, _, ⟨q0, q1, q2, q3, q4, q5, q6⟩, g0, g1, g2, g3, g4, g5, g6⟩ := cells7_of (o := 0) hB1 (by simp)
    obtain ⟨r0, r1, r2, r3, r4, r5, r6⟩ := (show CellsAt w2 (w.heap.size + 1 + 1) 0 [.int .i64 k, .int .i64 n, .int .i64 p, .int .i64 t, .string s, .string m, .slice none 0 0] from fun j u hu => by rw [cell_of_row _ _ _ _ _ _ hB2]; simpa using hu).seven0
    have gg := frozen_of_row w2 (w.heap.size + 1 + 1) 6 _ _ hB2
    simp only [Nat.zero_add] at q0 q1 q2 q3 q4 q5 q6 g0 g1 g2 g3 g4 g5 g6
    have Hput := hide (put_spec [.int .i64 k, .int .i64 n, .int .i64 p, .int .i64 t, .string s, .string m, .slice A2 l.length cap2] 0 (w2.setCell ⟨w.heap.size + 1 + 1, 6, none⟩ (.slice A2 l.length cap2)) _ ((heap_setCell_other _ _ _ _ (by simp)).trans hB1) (by simp))
    have Hs2 := hide hs2
    have Hf2 := hide hf2
    have Hb2 := hide hb2
    have HW := hide hW
    clear hs2 hf2 hb2 hW hB1 hB2
    go_wp2_with fail
    have hP := Hput.out
    change bodyPost _ _ _ _ _ (putCells (w2.setCell ⟨w.heap.size + 1 + 1, 6, none⟩ (.slice A2 l.length cap2)) (w.heap.size + 1) 0 [.int .i64 k, .int .i64 n, .int .i64 p, .int .i64 t, .string s, .string m, .slice A2 l.length cap2])
    generalize putCells (w2.setCell ⟨w.heap.size + 1 + 1, 6, none⟩ (.slice A2 l.length cap2)) (w.heap.size + 1) 0 [.int .i64 k, .int .i64 n, .int .i64 p, .int .i64 t, .string s, .string m, .slice A2 l.length cap2] = WF at hP
    obtain ⟨x0, x1, x2, x3, x4, x5, x6⟩ := hP.cellsAt.seven0
    have hfar : ∀ b ∈ F2, WF.heap[b]? = w2.heap[b]? := fun b hb => by
      have := Hf2.out.from_ b hb
      exact (hP.far b (by omega)).trans (heap_setCell_other _ _ _ _ (by simp; omega))
    have hB : Below w.heap.size w w2 := HW.out.trans (Hb2.out.mono (by omega))
    have hB3 : Below w.heap.size w WF := (hB.setCell (p := ⟨w.heap.size + 1 + 1, 6, none⟩) (by simp; omega) _).trans (hP.below (by omega))
    exact bodyPost_ret (v := .agg #[.int .i64 k, .int .i64 n, .int .i64 p, .int .i64 t, .string s, .string m, .slice A2 l.length cap2]) (by simp [results, Try.results17, go_sem, x0, x1, x2, x3, x4, x5, x6]) rfl ⟨A2, cap2, F2, rfl, ⟨_, rfl, Hok.out, Hs2.out.frame (ExR.good d) hfar (by rw [hP.size]; simp [World.setCell])⟩, (Hf2.out.keep hfar).mono (by omega), hB3⟩

theorem slim_of_bulk : ∀ {d : Nat} {e : Ex}, bulkE d e ≤ 1048576 → slim d e
  | 0, _, _ => trivial
  | d + 1, e, h => by
    have hs := sumBy_nonneg (bulkE_nonneg d) e.args
    simp only [bulkE] at h
    refine ⟨by omega, fun x hx => slim_of_bulk ?_⟩
    have := sumBy_mem (bulkE_nonneg d) hx
    omega

theorem below_drew_of {α : Type} {n : Nat} {R : CR α} (hR : Good n R) {w w1 w' : World} {x : α} {cs : List Value} {F : List Nat} {B : Nat} (h : R w x cs F) (hb : Below B w1 w') (hF : ∀ k ∈ F, k < B) (he : w1.heap = w.heap) : R w' x cs F :=
  hR.below (hR.heap h he) hb hF
end Go.Proofs.Ytaihdnlpdibkoaa
