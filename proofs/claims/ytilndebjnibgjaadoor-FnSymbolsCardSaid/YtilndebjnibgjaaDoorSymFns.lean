/- Symbols: an attribute sought by its name. Conditions: none beyond that the symbol can be read. -/
import Derived.Test.YtilndebjnibgjaaDoorSym
namespace Go.Proofs.YtilndebjnibgjaaDoor
set_option maxRecDepth 100000
open Go.RowKit Go.WideShapes
set_option linter.unusedVariables false

theorem find_hit {α : Type} {p : α → Bool} : ∀ {l : List α} {j : Nat} {x : α}, (∀ (k : Nat) (y : α), k < j → l[k]? = some y → p y = false) → l[j]? = some x → p x = true → l.find? p = some x
  | [], _, _, _, h, _ => by cases h
  | a :: r, 0, x, _, h, hp => by
    simp at h
    subst h
    simp [List.find?, hp]
  | a :: r, j + 1, x, hn, h, hp => by
    have h0 := hn 0 a (by omega) rfl
    simp only [List.find?, h0]
    exact find_hit (fun (k : Nat) y (hk : k < j) hy => hn (k + 1) y (by omega) (by simpa using hy)) (by simpa using h) hp
theorem find_no {α : Type} {p : α → Bool} {l : List α} (h : ∀ (k : Nat) (y : α), l[k]? = some y → p y = false) : l.find? p = none := by
  rw [List.find?_eq_none]
  intro x hx
  obtain ⟨k, hk⟩ := List.getElem?_of_mem hx
  simp [h k x hk]
def Atr.zero : Atr := ⟨⟨#[]⟩, 0, 0, false⟩
def findA (l : List Atr) (s : ByteArray) : Option Atr := l.find? fun a => a.name.toList == s.toList
theorem AtrR.zero (D : Nat) (w : World) : AtrR D w Atr.zero [.string ⟨#[]⟩, .int .i64 0, .int .i64 0, .bool false] [] := ⟨rfl, ⟨by simp [Atr.zero, ByteArray.size, maxLen], by decide, by decide⟩, rfl, rfl, rfl, rfl, rfl⟩
def Found (D : Nat) (w : World) (o : Option Atr) (en : Ending) (w' : World) : Prop :=
  ∃ us F', en = .returned (.tuple #[.agg (List.toArray us), .bool o.isSome]) ∧ AtrR D w' (o.getD Atr.zero) us F' ∧ Fresh w.heap.size w' F' ∧ Below w.heap.size w w'
set_option maxRecDepth 100000 in
set_option maxHeartbeats 1000000 in
theorem i_FindAttribute (D : Nat) (x : Sym) (cs : List Value) (F : List Nat) (w : World) (h : SymR D w x cs F) (s : ByteArray) :
    Calls Tryd.prog 10 #[.agg cs.toArray, .string s] w (Found D w (findA x.attrs s)) := by
  obtain ⟨c0, c1, rfl⟩ := list2 ((SymR.good D).len h)
  obtain ⟨v1, F1, _, hk, h0, ⟨h1, g1⟩, rfl⟩ := h
  obtain rfl := Option.some.inj h0
  obtain rfl := Option.some.inj h1
  obtain ⟨A, cap, rfl, hlc, hm⟩ := g1.form
  unfold maxLen at hm
  have HF := hide (g1.lt (AtrR.good D))
  have Hs := hide g1
  have hmm : x.attrs.length ≤ 9223372036854775807 := by omega
  clear hk g1 hlc hm
  have hA1 := heap_alloc_new (w.alloc (Obj.cells #[.string x.name, .slice A x.attrs.length cap] 26)) (Obj.cells #[.string ⟨#[]⟩, .int .i64 0, .int .i64 0, .bool false] 33)
  rw [World.size_alloc] at hA1
  have hw0 : Below w.heap.size w ((w.alloc (Obj.cells #[.string x.name, .slice A x.attrs.length cap] 26)).alloc (Obj.cells #[.string ⟨#[]⟩, .int .i64 0, .int .i64 0, .bool false] 33)) := ((Below.refl _ _).alloc (Nat.le_refl _) _).alloc (by simp) _
  have hz0 : ((w.alloc (Obj.cells #[.string x.name, .slice A x.attrs.length cap] 26)).alloc (Obj.cells #[.string ⟨#[]⟩, .int .i64 0, .int .i64 0, .bool false] 33)).heap.size = w.heap.size + 2 := by simp
  go_enter Tryd.func10, Tryd.ntmps10
  go_wp2_with fail
  generalize (w.alloc (Obj.cells #[.string x.name, .slice A x.attrs.length cap] 26)).alloc (Obj.cells #[.string ⟨#[]⟩, .int .i64 0, .int .i64 0, .bool false] 33) = W0 at hA1 hw0 hz0 ⊢
  have HA1 := hide hA1
  have Hw0 := hide hw0
  have hn0 : w.heap.size + 2 ≤ W0.heap.size := by omega
  clear hA1 hw0 hz0
  have hst := fun (w : World) (a : Addr) (v : Value) (m : Mode) (hv : v.oneCell' = true) => run_store Tryd.prog w a v m hv
  go_loopw [11] (fun i wr => ∃ j : Nat, j ≤ x.attrs.length ∧ i = .int .i64 j ∧ Hid (∀ (k : Nat) (y : Atr), k < j → x.attrs[k]? = some y → (y.name.toList == s.toList) = false) ∧ Hid (Below (w.heap.size + 2) W0 wr)) (fun i _ => x.attrs.length - (intOf i).toNat)
  case atStart => exact ⟨0, by omega, rfl, hide (fun k y hk => absurd hk (by omega)), hide (Below.refl _ _)⟩
  case round =>
    obtain ⟨j, hj, rfl, Hno, Hb⟩ := hrel
    have Hw : Hid (Below w.heap.size w wr) := hide (Hw0.out.trans (Hb.out.mono (by omega)))
    by_cases hlt : j < x.attrs.length
    · have hx : x.attrs[j]? = some x.attrs[j] := List.getElem?_eq_getElem hlt
      generalize x.attrs[j] = y at hx
      obtain ⟨b, off, cs, Fk, hA, _, hbF, hFk, hcl, hcat, hR⟩ := SlR.get (AtrR.good D) (Hs.out.below (AtrR.good D) Hw.out HF.out) hx
      subst hA
      obtain ⟨c0, c1, c2, c3, rfl⟩ := list4 hcl
      have hR' := hR
      obtain ⟨_, hk, h0, h1, h2, h3, rfl⟩ := hR
      obtain rfl := Option.some.inj h0
      obtain rfl := Option.some.inj h1
      obtain rfl := Option.some.inj h2
      obtain rfl := Option.some.inj h3
      obtain ⟨e0, e1, e2, e3⟩ := hcat.four
      have hblt := Nat.lt_of_lt_of_le (HF.out b hbF) Hw.out.size
      have hB := Hb.out.size
      have h1b := blk_below HA1.out Hb.out (by omega)
      have q0 := cell_at (i := 0) h1b (by simp)
      have q1 := cell_at (i := 1) h1b (by simp)
      have q2 := cell_at (i := 2) h1b (by simp)
      have q3 := cell_at (i := 3) h1b (by simp)
      simp only [Array.getD_eq_getD_getElem?, List.getElem?_toArray, List.getElem?_cons_succ, List.getElem?_cons_zero, Option.getD_some] at q0 q1 q2 q3
      have p0 := frozen_of_row wr (w.heap.size + 1) 0 _ _ h1b
      have p1 := frozen_of_row wr (w.heap.size + 1) 1 _ _ h1b
      have p2 := frozen_of_row wr (w.heap.size + 1) 2 _ _ h1b
      have p3 := frozen_of_row wr (w.heap.size + 1) 3 _ _ h1b
      have hlt1 : w.heap.size + 1 < wr.heap.size := by omega
      have Hx := hide hx
      have HR := hide hR'
      have H1b := hide h1b
      clear hx hR' hk hcat hFk hbF hcl h0 h1 h2 h3 h1b
      cases hq : (y.name.toList == s.toList)
      · have Hq := hide hq
        go_wp2_with fail
        go_roundw
        case rel =>
          refine ⟨j + 1, by omega, by go_num, hide fun k z hk hz => ?_, hide (Hb.out.alloc (by omega) _)⟩
          by_cases hkj : k < j
          · exact Hno.out k z hkj hz
          · obtain rfl : k = j := by omega
            have := Hx.out
            rw [hz] at this
            obtain rfl := Option.some.inj this
            exact Hq.out
        case measure => simp [intOf]; omega
      · have Hf : Hid (findA x.attrs s = some y) := hide (find_hit Hno.out Hx.out hq)
        go_wp2_with fail
        change bodyPost _ _ _ _ _ ((putCells wr (w.heap.size + 1) 0 [.string y.name, .int .i64 y.type, .int .i64 y.mode, .bool y.circ]).alloc (Obj.cells #[.string y.name, .int .i64 y.type, .int .i64 y.mode, .bool y.circ] 33))
        have hP := put_spec [.string y.name, .int .i64 y.type, .int .i64 y.mode, .bool y.circ] 0 _ _ H1b.out (by simp)
        have hC := hP.cellsAt
        have hlt2 : w.heap.size + 1 < (putCells wr (w.heap.size + 1) 0 [.string y.name, .int .i64 y.type, .int .i64 y.mode, .bool y.circ]).heap.size := by rw [hP.size]; exact hlt1
        have hW : Below w.heap.size w (putCells wr (w.heap.size + 1) 0 [.string y.name, .int .i64 y.type, .int .i64 y.mode, .bool y.circ]) := Hw.out.trans (hP.below (by omega))
        generalize putCells wr (w.heap.size + 1) 0 [.string y.name, .int .i64 y.type, .int .i64 y.mode, .bool y.circ] = WP at hC hW hlt2 ⊢
        have hW := hW.alloc (by omega) (Obj.cells #[.string y.name, .int .i64 y.type, .int .i64 y.mode, .bool y.circ] 33)
        have hC := hC.below (w' := WP.alloc (Obj.cells #[.string y.name, .int .i64 y.type, .int .i64 y.mode, .bool y.circ] 33)) ((Below.refl _ _).alloc (Nat.le_refl _) _) hlt2
        generalize WP.alloc (Obj.cells #[.string y.name, .int .i64 y.type, .int .i64 y.mode, .bool y.circ] 33) = WF at hC hW ⊢
        obtain ⟨x0, x1, x2, x3⟩ := hC.four0
        exact bodyPost_ret (v := .tuple #[.agg #[.string y.name, .int .i64 y.type, .int .i64 y.mode, .bool y.circ], .bool true]) (by simp [results, Tryd.results10, go_sem, x0, x1, x2, x3]) rfl
          ⟨[.string y.name, .int .i64 y.type, .int .i64 y.mode, .bool y.circ], [], by rw [Hf.out]; rfl, by rw [Hf.out]; exact ⟨rfl, HR.out.2.1, rfl, rfl, rfl, rfl, rfl⟩, Fresh.nil _ _, hW⟩
    · have Hf : Hid (findA x.attrs s = none) := hide (find_no fun k y hy => Hno.out k y (by have := (List.getElem?_eq_some_iff.1 hy).1; omega) hy)
      have hB := Hb.out.size
      have h1b := blk_below HA1.out Hb.out (by omega)
      have q0 := cell_at (i := 0) h1b (by simp)
      have q1 := cell_at (i := 1) h1b (by simp)
      have q2 := cell_at (i := 2) h1b (by simp)
      have q3 := cell_at (i := 3) h1b (by simp)
      simp only [Array.getD_eq_getD_getElem?, List.getElem?_toArray, List.getElem?_cons_succ, List.getElem?_cons_zero, Option.getD_some] at q0 q1 q2 q3
      have p0 := frozen_of_row wr (w.heap.size + 1) 0 _ _ h1b
      have p1 := frozen_of_row wr (w.heap.size + 1) 1 _ _ h1b
      have p2 := frozen_of_row wr (w.heap.size + 1) 2 _ _ h1b
      have p3 := frozen_of_row wr (w.heap.size + 1) 3 _ _ h1b
      have Hbl := hide h1b
      clear h1b
      go_wp2_with fail
      change bodyPost _ _ _ _ _ (putCells wr (w.heap.size + 1) 0 [.string ⟨#[]⟩, .int .i64 0, .int .i64 0, .bool false])
      have hP := put_spec [.string ⟨#[]⟩, .int .i64 0, .int .i64 0, .bool false] 0 _ _ Hbl.out (by simp)
      have hC := hP.cellsAt
      have hW : Below w.heap.size w (putCells wr (w.heap.size + 1) 0 [.string ⟨#[]⟩, .int .i64 0, .int .i64 0, .bool false]) := Hw.out.trans (hP.below (by omega))
      generalize putCells wr (w.heap.size + 1) 0 [.string ⟨#[]⟩, .int .i64 0, .int .i64 0, .bool false] = WF at hC hW ⊢
      obtain ⟨x0, x1, x2, x3⟩ := hC.four0
      exact bodyPost_ret (v := .tuple #[.agg #[.string ⟨#[]⟩, .int .i64 0, .int .i64 0, .bool false], .bool false]) (by simp [results, Tryd.results10, go_sem, x0, x1, x2, x3]) rfl
        ⟨[.string ⟨#[]⟩, .int .i64 0, .int .i64 0, .bool false], [], by rw [Hf.out]; rfl, by rw [Hf.out]; exact AtrR.zero D _, Fresh.nil _ _, hW⟩
end Go.Proofs.YtilndebjnibgjaaDoor
