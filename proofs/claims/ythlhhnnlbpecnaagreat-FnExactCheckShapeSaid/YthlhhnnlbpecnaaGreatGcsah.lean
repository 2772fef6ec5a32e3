/- Several texts of one proof in one file: Symbols: an attribute sought by its name. Structs handed on whole: loads and stores of all cells at once. Plain: no program. Comparisons of slices of texts: the reference's. Comparisons of occurrences and attributes by == and !=. Whether a number lies in a range. Expressions: equality of both sides. Rules: the symbol at a position; comparisons of rules. Slices of structs with one element written anew. Plain: no program. Conditions: each theorem names its own. -/
import Derived.Test.YthlhhnnlbpecnaaGreatGcsaf
import Derived.Test.YthlhhnnlbpecnaaGreatGcsab
import Derived.Deep.WholeRow
import Derived.Laws.Cells
import Derived.Test.YthlhhnnlbpecnaaGreatGcsae
import Derived.Laws.StructEq
import Derived.Test.YthlhhnnlbpecnaaGreatRows
import Derived.Test.YthlhhnnlbpecnaaGreatGcsaa
import Derived.Test.YthlhhnnlbpecnaaGreatGcsad
import Derived.Deep.RegionHeld3

/- Symbols: an attribute sought by its name. Conditions: none beyond that the symbol can be read. -/
namespace Go.Proofs.YthlhhnnlbpecnaaGreat
set_option linter.unusedSimpArgs false
set_option linter.unusedVariables false
set_option maxRecDepth 100000
open Go.RowKit Go.WideShapes
set_option linter.unusedVariables false

theorem find_hit {α : Type} {p : α → Bool} : ∀ {l : List α} {j : Nat} {x : α}, (∀ (k : Nat) (y : α), k < j → l[k]? = some y → p y = false) → l[j]? = some x → p x = true → l.find? p = some x
  | [], _, _, _, h, _ => by cases h
  | a :: r, 0, x, _, h, hp => by
    simp at h
    subst h
    simp [List.find?, hp]
  | a :: r, j + 1, x, hn, h, hp => by
    have h0 := hn 0 a (by omega) rfl
    simp only [List.find?, h0]
    exact find_hit (fun (k : Nat) y (hk : k < j) hy => hn (k + 1) y (by omega) (by simpa using hy)) (by simpa using h) hp
theorem find_no {α : Type} {p : α → Bool} {l : List α} (h : ∀ (k : Nat) (y : α), l[k]? = some y → p y = false) : l.find? p = none := by
  rw [List.find?_eq_none]
  intro x hx
  obtain ⟨k, hk⟩ := List.getElem?_of_mem hx
  simp [h k x hk]
def Atr.zero : Atr := ⟨⟨#[]⟩, 0, 0, false⟩
def findA (l : List Atr) (s : ByteArray) : Option Atr := l.find? fun a => a.name.toList == s.toList
theorem AtrR.zero (D : Nat) (w : World) : AtrR D w Atr.zero [.string ⟨#[]⟩, .int .i64 0, .int .i64 0, .bool false] [] := ⟨rfl, ⟨by simp [Atr.zero, ByteArray.size, maxLen], by decide, by decide⟩, rfl, rfl, rfl, rfl, rfl⟩
def Found (D : Nat) (w : World) (o : Option Atr) (en : Ending) (w' : World) : Prop :=
  ∃ us F', en = .returned (.tuple #[.agg (List.toArray us), .bool o.isSome]) ∧ AtrR D w' (o.getD Atr.zero) us F' ∧ Fresh w.heap.size w' F' ∧ Below w.heap.size w w'
set_option maxRecDepth 100000 in
theorem s_FindAttribute (D : Nat) (x : Sym) (cs : List Value) (F : List Nat) (w : World) (h : SymR D w x cs F) (s : ByteArray) :
    Calls Tryz.prog 136 #[.agg cs.toArray, .string s] w (Found D w (findA x.attrs s)) := by
  obtain ⟨c0, c1, rfl⟩ := list2 ((SymR.good D).len h)
  obtain ⟨v1, F1, _, hk, h0, ⟨h1, g1⟩, rfl⟩ := h
  obtain rfl := Option.some.inj h0
  obtain rfl := Option.some.inj h1
  obtain ⟨A, cap, rfl, hlc, hm⟩ := g1.form
  unfold maxLen at hm
  have HF := hide (g1.lt (AtrR.good D))
  have Hs := hide g1
  have hmm : x.attrs.length ≤ 9223372036854775807 := by omega
  clear hk g1 hlc hm
  go_enter Tryz.func136, Tryz.ntmps136
  go_wp2_with fail
  go_loop [6] (fun i => ∃ j : Nat, j ≤ x.attrs.length ∧ i = .int .i64 j ∧ Hid (∀ (k : Nat) (y : Atr), k < j → x.attrs[k]? = some y → (y.name.toList == s.toList) = false)) (fun i => x.attrs.length - (intOf i).toNat)
  case atStart => exact ⟨0, by omega, rfl, hide (fun k y hk => absurd hk (by omega))⟩
  case round =>
    obtain ⟨j, hj, rfl, Hno⟩ := hrel
    by_cases hlt : j < x.attrs.length
    · have hx : x.attrs[j]? = some x.attrs[j] := List.getElem?_eq_getElem hlt
      generalize x.attrs[j] = y at hx
      obtain ⟨b, off, cs, Fk, hA, _, hbF, hFk, hcl, hcat, hR⟩ := SlR.get (AtrR.good D) Hs.out hx
      subst hA
      obtain ⟨c0, c1, c2, c3, rfl⟩ := list4 hcl
      have hR' := hR
      obtain ⟨_, hk, h0, h1, h2, h3, rfl⟩ := hR
      obtain rfl := Option.some.inj h0
      obtain rfl := Option.some.inj h1
      obtain rfl := Option.some.inj h2
      obtain rfl := Option.some.inj h3
      obtain ⟨e0, e1, e2, e3⟩ := hcat.four
      have hblt := HF.out b hbF
      have Hx := hide hx
      have HR := hide hR'
      clear hx hR' hk hcat hFk hbF hcl h0 h1 h2 h3
      cases hq : (y.name.toList == s.toList)
      · have Hq := hide hq
        go_wp2_with fail
        go_round
        case rel =>
          refine ⟨j + 1, by omega, by go_num, hide fun k z hk hz => ?_⟩
          by_cases hkj : k < j
          · exact Hno.out k z hkj hz
          · obtain rfl : k = j := by omega
            have := Hx.out
            rw [hz] at this
            obtain rfl := Option.some.inj this
            exact Hq.out
        case measure => simp [intOf]; omega
      · have Hf : Hid (findA x.attrs s = some y) := hide (find_hit Hno.out Hx.out hq)
        go_wp2_with fail
        exact bodyPost_ret (v := .tuple #[.agg #[.string y.name, .int .i64 y.type, .int .i64 y.mode, .bool y.circ], .bool true]) (by simp [results, Tryz.results136, go_sem]) rfl
          ⟨[.string y.name, .int .i64 y.type, .int .i64 y.mode, .bool y.circ], [], by rw [Hf.out]; rfl, by rw [Hf.out]; exact ⟨rfl, HR.out.2.1, rfl, rfl, rfl, rfl, rfl⟩, Fresh.nil _ _, ((Below.refl _ _).alloc (Nat.le_refl _) _).alloc (by simp) _⟩
    · have Hf : Hid (findA x.attrs s = none) := hide (find_no fun k y hy => Hno.out k y (by have := (List.getElem?_eq_some_iff.1 hy).1; omega) hy)
      go_wp2_with fail
      exact bodyPost_ret (v := .tuple #[.agg #[.string ⟨#[]⟩, .int .i64 0, .int .i64 0, .bool false], .bool false]) (by simp [results, Tryz.results136, go_sem]) rfl
        ⟨[.string ⟨#[]⟩, .int .i64 0, .int .i64 0, .bool false], [], by rw [Hf.out]; rfl, by rw [Hf.out]; exact AtrR.zero D _, Fresh.nil _ _, ((Below.refl _ _).alloc (Nat.le_refl _) _).alloc (by simp) _⟩
set_option maxRecDepth 100000 in
set_option maxHeartbeats 1000000 in
theorem i_FindAttribute (D : Nat) (x : Sym) (cs : List Value) (F : List Nat) (w : World) (h : SymR D w x cs F) (s : ByteArray) :
    Calls Tryz.prog 125 #[.agg cs.toArray, .string s] w (Found D w (findA x.attrs s)) := by
  obtain ⟨c0, c1, rfl⟩ := list2 ((SymR.good D).len h)
  obtain ⟨v1, F1, _, hk, h0, ⟨h1, g1⟩, rfl⟩ := h
  obtain rfl := Option.some.inj h0
  obtain rfl := Option.some.inj h1
  obtain ⟨A, cap, rfl, hlc, hm⟩ := g1.form
  unfold maxLen at hm
  have HF := hide (g1.lt (AtrR.good D))
  have Hs := hide g1
  have hmm : x.attrs.length ≤ 9223372036854775807 := by omega
  clear hk g1 hlc hm
  have hA1 := heap_alloc_new (w.alloc (Obj.cells #[.string x.name, .slice A x.attrs.length cap] 42)) (Obj.cells #[.string ⟨#[]⟩, .int .i64 0, .int .i64 0, .bool false] 44)
  rw [World.size_alloc] at hA1
  have hw0 : Below w.heap.size w ((w.alloc (Obj.cells #[.string x.name, .slice A x.attrs.length cap] 42)).alloc (Obj.cells #[.string ⟨#[]⟩, .int .i64 0, .int .i64 0, .bool false] 44)) := ((Below.refl _ _).alloc (Nat.le_refl _) _).alloc (by simp) _
  have hz0 : ((w.alloc (Obj.cells #[.string x.name, .slice A x.attrs.length cap] 42)).alloc (Obj.cells #[.string ⟨#[]⟩, .int .i64 0, .int .i64 0, .bool false] 44)).heap.size = w.heap.size + 2 := by simp
  go_enter Tryz.func125, Tryz.ntmps125
  go_wp2_with fail
  generalize (w.alloc (Obj.cells #[.string x.name, .slice A x.attrs.length cap] 42)).alloc (Obj.cells #[.string ⟨#[]⟩, .int .i64 0, .int .i64 0, .bool false] 44) = W0 at hA1 hw0 hz0 ⊢
  have HA1 := hide hA1
  have Hw0 := hide hw0
  have hn0 : w.heap.size + 2 ≤ W0.heap.size := by omega
  clear hA1 hw0 hz0
  have hst := fun (w : World) (a : Addr) (v : Value) (m : Mode) (hv : v.oneCell' = true) => run_store Tryz.prog w a v m hv
  go_loopw [11] (fun i wr => ∃ j : Nat, j ≤ x.attrs.length ∧ i = .int .i64 j ∧ Hid (∀ (k : Nat) (y : Atr), k < j → x.attrs[k]? = some y → (y.name.toList == s.toList) = false) ∧ Hid (Below (w.heap.size + 2) W0 wr)) (fun i _ => x.attrs.length - (intOf i).toNat)
  case atStart => exact ⟨0, by omega, rfl, hide (fun k y hk => absurd hk (by omega)), hide (Below.refl _ _)⟩
  case round =>
    obtain ⟨j, hj, rfl, Hno, Hb⟩ := hrel
    have Hw : Hid (Below w.heap.size w wr) := hide (Hw0.out.trans (Hb.out.mono (by omega)))
    by_cases hlt : j < x.attrs.length
    · have hx : x.attrs[j]? = some x.attrs[j] := List.getElem?_eq_getElem hlt
      generalize x.attrs[j] = y at hx
      obtain ⟨b, off, cs, Fk, hA, _, hbF, hFk, hcl, hcat, hR⟩ := SlR.get (AtrR.good D) (Hs.out.below (AtrR.good D) Hw.out HF.out) hx
      subst hA
      obtain ⟨c0, c1, c2, c3, rfl⟩ := list4 hcl
      have hR' := hR
      obtain ⟨_, hk, h0, h1, h2, h3, rfl⟩ := hR
      obtain rfl := Option.some.inj h0
      obtain rfl := Option.some.inj h1
      obtain rfl := Option.some.inj h2
      obtain rfl := Option.some.inj h3
      obtain ⟨e0, e1, e2, e3⟩ := hcat.four
      have hblt := Nat.lt_of_lt_of_le (HF.out b hbF) Hw.out.size
      have hB := Hb.out.size
      have h1b := blk_below HA1.out Hb.out (by omega)
      have q0 := cell_at (i := 0) h1b (by simp)
      have q1 := cell_at (i := 1) h1b (by simp)
      have q2 := cell_at (i := 2) h1b (by simp)
      have q3 := cell_at (i := 3) h1b (by simp)
      simp only [Array.getD_eq_getD_getElem?, List.getElem?_toArray, List.getElem?_cons_succ, List.getElem?_cons_zero, Option.getD_some] at q0 q1 q2 q3
      have p0 := frozen_of_row wr (w.heap.size + 1) 0 _ _ h1b
      have p1 := frozen_of_row wr (w.heap.size + 1) 1 _ _ h1b
      have p2 := frozen_of_row wr (w.heap.size + 1) 2 _ _ h1b
      have p3 := frozen_of_row wr (w.heap.size + 1) 3 _ _ h1b
      have hlt1 : w.heap.size + 1 < wr.heap.size := by omega
      have Hx := hide hx
      have HR := hide hR'
      have H1b := hide h1b
      clear hx hR' hk hcat hFk hbF hcl h0 h1 h2 h3 h1b
      cases hq : (y.name.toList == s.toList)
      · have Hq := hide hq
        go_wp2_with fail
        go_roundw
        case rel =>
          refine ⟨j + 1, by omega, by go_num, hide fun k z hk hz => ?_, hide (Hb.out.alloc (by omega) _)⟩
          by_cases hkj : k < j
          · exact Hno.out k z hkj hz
          · obtain rfl : k = j := by omega
            have := Hx.out
            rw [hz] at this
            obtain rfl := Option.some.inj this
            exact Hq.out
        case measure => simp [intOf]; omega
      · have Hf : Hid (findA x.attrs s = some y) := hide (find_hit Hno.out Hx.out hq)
        go_wp2_with fail
        change bodyPost _ _ _ _ _ ((putCells wr (w.heap.size + 1) 0 [.string y.name, .int .i64 y.type, .int .i64 y.mode, .bool y.circ]).alloc (Obj.cells #[.string y.name, .int .i64 y.type, .int .i64 y.mode, .bool y.circ] 44))
        have hP := put_spec [.string y.name, .int .i64 y.type, .int .i64 y.mode, .bool y.circ] 0 _ _ H1b.out (by simp)
        have hC := hP.cellsAt
        have hlt2 : w.heap.size + 1 < (putCells wr (w.heap.size + 1) 0 [.string y.name, .int .i64 y.type, .int .i64 y.mode, .bool y.circ]).heap.size := by rw [hP.size]; exact hlt1
        have hW : Below w.heap.size w (putCells wr (w.heap.size + 1) 0 [.string y.name, .int .i64 y.type, .int .i64 y.mode, .bool y.circ]) := Hw.out.trans (hP.below (by omega))
        generalize putCells wr (w.heap.size + 1) 0 [.string y.name, .int .i64 y.type, .int .i64 y.mode, .bool y.circ] = WP at hC hW hlt2 ⊢
        have hW := hW.alloc (by omega) (Obj.cells #[.string y.name, .int .i64 y.type, .int .i64 y.mode, .bool y.circ] 44)
        have hC := hC.below (w' := WP.alloc (Obj.cells #[.string y.name, .int .i64 y.type, .int .i64 y.mode, .bool y.circ] 44)) ((Below.refl _ _).alloc (Nat.le_refl _) _) hlt2
        generalize WP.alloc (Obj.cells #[.string y.name, .int .i64 y.type, .int .i64 y.mode, .bool y.circ] 44) = WF at hC hW ⊢
        obtain ⟨x0, x1, x2, x3⟩ := hC.four0
        exact bodyPost_ret (v := .tuple #[.agg #[.string y.name, .int .i64 y.type, .int .i64 y.mode, .bool y.circ], .bool true]) (by simp [results, Tryz.results125, go_sem, x0, x1, x2, x3]) rfl
          ⟨[.string y.name, .int .i64 y.type, .int .i64 y.mode, .bool y.circ], [], by rw [Hf.out]; rfl, by rw [Hf.out]; exact ⟨rfl, HR.out.2.1, rfl, rfl, rfl, rfl, rfl⟩, Fresh.nil _ _, hW⟩
    · have Hf : Hid (findA x.attrs s = none) := hide (find_no fun k y hy => Hno.out k y (by have := (List.getElem?_eq_some_iff.1 hy).1; omega) hy)
      have hB := Hb.out.size
      have h1b := blk_below HA1.out Hb.out (by omega)
      have q0 := cell_at (i := 0) h1b (by simp)
      have q1 := cell_at (i := 1) h1b (by simp)
      have q2 := cell_at (i := 2) h1b (by simp)
      have q3 := cell_at (i := 3) h1b (by simp)
      simp only [Array.getD_eq_getD_getElem?, List.getElem?_toArray, List.getElem?_cons_succ, List.getElem?_cons_zero, Option.getD_some] at q0 q1 q2 q3
      have p0 := frozen_of_row wr (w.heap.size + 1) 0 _ _ h1b
      have p1 := frozen_of_row wr (w.heap.size + 1) 1 _ _ h1b
      have p2 := frozen_of_row wr (w.heap.size + 1) 2 _ _ h1b
      have p3 := frozen_of_row wr (w.heap.size + 1) 3 _ _ h1b
      have Hbl := hide h1b
      clear h1b
      go_wp2_with fail
      change bodyPost _ _ _ _ _ (putCells wr (w.heap.size + 1) 0 [.string ⟨#[]⟩, .int .i64 0, .int .i64 0, .bool false])
      have hP := put_spec [.string ⟨#[]⟩, .int .i64 0, .int .i64 0, .bool false] 0 _ _ Hbl.out (by simp)
      have hC := hP.cellsAt
      have hW : Below w.heap.size w (putCells wr (w.heap.size + 1) 0 [.string ⟨#[]⟩, .int .i64 0, .int .i64 0, .bool false]) := Hw.out.trans (hP.below (by omega))
      generalize putCells wr (w.heap.size + 1) 0 [.string ⟨#[]⟩, .int .i64 0, .int .i64 0, .bool false] = WF at hC hW ⊢
      obtain ⟨x0, x1, x2, x3⟩ := hC.four0
      exact bodyPost_ret (v := .tuple #[.agg #[.string ⟨#[]⟩, .int .i64 0, .int .i64 0, .bool false], .bool false]) (by simp [results, Tryz.results125, go_sem, x0, x1, x2, x3]) rfl
        ⟨[.string ⟨#[]⟩, .int .i64 0, .int .i64 0, .bool false], [], by rw [Hf.out]; rfl, by rw [Hf.out]; exact AtrR.zero D _, Fresh.nil _ _, hW⟩
end Go.Proofs.YthlhhnnlbpecnaaGreat

/- Structs handed on whole: loads and stores of all cells at once. Plain: no program. -/
namespace Go.Proofs.YthlhhnnlbpecnaaGreat
set_option linter.unusedSimpArgs false
set_option linter.unusedVariables false
set_option maxRecDepth 100000
open Go.RowKit

/-- A goal that the walk lets be. -/
def Hold (p : Prop) : Prop := p
theorem hold {p : Prop} (h : Hold p) : p := h
theorem Hold.go {p : Prop} (h : p) : Hold p := h
/-- All cells at once, in a world that holds them. -/
theorem load_at {P : Program} {W : World} {b o n : Nat} {cs : List Value} (hn : cs.length = n) (h : CellsAt W b o cs) : Sem.run P (loadCellsFrom ⟨b, o, none⟩ 0 n #[]) W = .ok cs.toArray W := by
  have := run_loadCells_list (P := P) (w := W) ⟨b, o, none⟩ cs (fun j v hv => by
    have hadd : (⟨b, o, none⟩ : Addr).add j = ⟨b, o + j, none⟩ := by unfold Addr.add; split <;> simp_all
    rw [hadd]
    exact h j v hv)
  rw [hn] at this
  simpa [loadCells] using this
theorem load_rule {P : Program} {W0 : World} {b o n B : Nat} {cs : List Value} (hn : cs.length = n) (h : CellsAt W0 b o cs) (hb : b < B) : ∀ W : World, Below B W0 W → Sem.run P (loadCellsFrom ⟨b, o, none⟩ 0 n #[]) W = .ok cs.toArray W := fun W hW =>
  load_at hn (h.below hW hb)
/-- All cells at once into the block made last. -/
theorem store_new {P : Program} {t : TypeId} {n : Nat} {cs : List Value} (hi : (P.info? t).map (·.size) = some n) (hn : cs.length = n) (h1 : ∀ v ∈ cs, v.oneCell' = true) (W : World) (c : Array Value) (hc : c.size = n) :
    Sem.run P (storeCells ⟨W.heap.size, 0, none⟩ cs 0) (W.alloc (.cells c t)) = .ok () (W.alloc (.cells cs.toArray t)) := by
  have := run_storeCells_new (P := P) W t c cs.toArray (by rw [hi]; simp [hn]) (by simp [hn, hc]) (by simpa using h1)
  simpa using this
theorem run_loadVar_at {P : Program} {W : World} {b o : Nat} {ty : TypeId} {cs : List Value} {d : TypeDesc} (hu : P.underlying ty = some d) (hd : (match d with | .struct _ | .array _ _ => true | _ => false) = true) (hi : (P.info? ty).map (·.size) = some cs.length) (h : CellsAt W b o cs) :
    (loadVar ty ⟨b, o, none⟩).run P W = .ok (.agg cs.toArray) W := by
  have hl := load_at (P := P) rfl h
  cases hq : P.info? ty with
  | none => simp [hq] at hi
  | some i =>
    have hs : i.size = cs.length := by simpa [hq] using hi
    have hagg : (isAgg ty).run P W = .ok true W := by
      unfold isAgg
      rw [Sem.run_bind, run_underlying hu W]
      cases d <;> simp_all
    simp [loadVar, Sem.run_bind, hagg, sizeOf, typeInfo, hq, hs, loadCells, hl]
/-- A struct loaded whole. -/
theorem wpList_load_at {P : Program} {ops : Array Oper} {rest : List Oper} {o : Oper} {a : Act} {w : World} {Q : Exit → Act → World → Prop} (ty : TypeId) (x : Operand) (ho : o.op = .load ty x) {d : TypeDesc} (hu : P.underlying ty = some d) (hd : (match d with | .struct _ | .array _ _ => true | _ => false) = true)
    {b off n : Nat} {cs : List Value} (hi : (P.info? ty).map (·.size) = some n) (hw : Region.wanted o (yielded ops a.tmps) = true) (hx : a.eval x = .pointer (some ⟨b, off, none⟩)) (hn : cs.length = n) (hc : CellsAt w b off cs)
    (h : wpList P ops Q rest (a.put o.dst (.agg cs.toArray)) w) : wpList P ops Q (o :: rest) a w :=
  BigFrame.wpList_want hw fun K hK => by
    subst hn
    unfold Oper.wp execOp
    simp only [ho, hx, Instr.loadAt, Instr.sureAddr, Sem.run_bind, Sem.run_pure, Result.andThen_ok, run_loadVar_at hu hd hi hc]
    exact hK _ _ h
/-- A struct stored whole into the block that was made last. -/
theorem wpList_store_new {P : Program} {ops : Array Oper} {rest : List Oper} {o : Oper} {a : Act} {W : World} {Q : Exit → Act → World → Prop} (ty : TypeId) (x y : Operand) (ho : o.op = .store ty x y)
    {n : Nat} {cs : List Value} {c : Array Value} (hi : (P.info? ty).map (·.size) = some n) (hw : Region.wanted o (yielded ops a.tmps) = true) (hy : a.eval y = .agg cs.toArray) {g : Nat} (hx : a.eval x = .pointer (some ⟨g, 0, none⟩)) (hg : W.heap.size = g) (hn : cs.length = n) (h1 : ∀ v ∈ cs, v.oneCell' = true) (hc : c.size = n)
    (h : wpList P ops Q rest (a.put o.dst undef) (W.alloc (.cells cs.toArray ty))) : wpList P ops Q (o :: rest) a (W.alloc (.cells c ty)) :=
  BigFrame.wpList_want hw fun K hK => by
    subst hg
    have hr := run_storeVar_new (P := P) W ty c cs.toArray (by rw [hi]; simp [hn]) (by simp [hn, hc]) (by simpa using h1)
    unfold Oper.wp execOp
    simp only [ho, hx, hy, Instr.storeAt, Instr.sureAddr, Sem.run_bind, Sem.run_pure, Result.andThen_ok, hr]
    exact hK _ _ h
theorem Put.of_row {w : World} {g off : Nat} {old : Array Value} {t : TypeId} {cs : List Value} (hg : w.heap[g]? = some (.cells old t (0, 0))) (hfit : off + cs.length ≤ old.size) :
    Put w g off cs old t (w.setRow g (old.toList.take off ++ cs ++ old.toList.drop (off + cs.length)).toArray) := by
  refine ⟨⟨_, setRow_heap w g old _ t _ hg, ?_, fun i hi => ?_, fun j u hu => ?_⟩, fun k hk => setRow_other w g k _ hk, by simp, rfl, rfl, rfl⟩
  · simp only [List.size_toArray, List.length_append, List.length_take, List.length_drop, Array.length_toList]
    omega
  · rw [List.getElem?_toArray]
    rcases hi with hi | hi
    · rw [List.append_assoc, List.getElem?_append_left (by simp; omega), List.getElem?_take, if_pos hi, Array.getElem?_toList]
    · rw [List.getElem?_append_right (by simp; omega), List.getElem?_drop, Array.getElem?_toList]
      congr 1
      simp
      omega
  · have hj := (List.getElem?_eq_some_iff.1 hu).1
    rw [List.getElem?_toArray, List.append_assoc, List.getElem?_append_right (by simp; omega), List.getElem?_append_left (by simp; omega)]
    rw [← hu]
    congr 1
    simp
    omega
/-- A struct stored whole into an older block. -/
theorem wpList_store_at {P : Program} {ops : Array Oper} {rest : List Oper} {o : Oper} {a : Act} {w : World} {Q : Exit → Act → World → Prop} (ty : TypeId) (x y : Operand) (ho : o.op = .store ty x y)
    {n : Nat} {cs : List Value} (hi : (P.info? ty).map (·.size) = some n) (hw : Region.wanted o (yielded ops a.tmps) = true) (hy : a.eval y = .agg cs.toArray) {g off : Nat} (hx : a.eval x = .pointer (some ⟨g, off, none⟩)) (hn : cs.length = n) (h1 : ∀ v ∈ cs, v.oneCell' = true)
    {old : Array Value} {t : TypeId} (hg : w.heap[g]? = some (.cells old t (0, 0))) (hfit : off + n ≤ old.size)
    (h : ∀ w', Put w g off cs old t w' → wpList P ops Q rest (a.put o.dst undef) w') : wpList P ops Q (o :: rest) a w :=
  BigFrame.wpList_want hw fun K hK => by
    subst hn
    have hst := run_storeCells_at P g off t cs 0 old w hg (by simpa using hfit) h1
    simp only [Nat.add_zero] at hst
    have hr : (storeVar ty ⟨g, off, none⟩ (.agg cs.toArray)).run P w = .ok () (w.setRow g (old.toList.take off ++ cs ++ old.toList.drop (off + cs.length)).toArray) := by
      cases hq : P.info? ty with
      | none => simp [hq] at hi
      | some i =>
        have hs : i.size = cs.length := by simpa [hq] using hi
        simp [storeVar, sizeOf, typeInfo, hq, Value.cells, hs, hst]
    unfold Oper.wp execOp
    simp only [ho, hx, hy, Instr.storeAt, Instr.sureAddr, Sem.run_bind, Sem.run_pure, Result.andThen_ok, hr]
    exact hK _ _ (h _ (Put.of_row hg hfit))
end Go.Proofs.YthlhhnnlbpecnaaGreat

/- Comparisons of slices of texts: the reference's. Conditions: the slices' lengths fit an int. -/
namespace Go.Proofs.YthlhhnnlbpecnaaGreat
set_option linter.unusedSimpArgs false
set_option linter.unusedVariables false
set_option maxRecDepth 100000
open Go.RowKit

end Go.Proofs.YthlhhnnlbpecnaaGreat

/- Comparisons of occurrences and attributes by == and !=. -/
namespace Go.Proofs.YthlhhnnlbpecnaaGreat
set_option linter.unusedSimpArgs false
set_option linter.unusedVariables false
set_option maxRecDepth 100000
open Go.RowKit Go.WideShapes
set_option linter.unusedVariables false
def eqOcc (a b : Occ) : Bool := (a.pos == b.pos) && (a.name.toList == b.name.toList)
theorem run_eqOcc (p p' : Int) (s s' : ByteArray) (W : World) : (Op.equalIn 10000 81 (.agg #[.int .i64 p, .string s]) (.agg #[.int .i64 p', .string s'])).run Tryz.prog W = .ok ((p == p') && (s.toList == s'.toList)) W := by
  have E1 : ∀ W : World, (Op.equalIn 9999 3 (.int .i64 p) (.int .i64 p')).run Tryz.prog W = .ok (p == p') W := fun W => run_equalIn_int W 9998 _ _ _ _ _ rfl
  have E2 : ∀ W : World, (Op.equalIn 9999 9 (.string s) (.string s')).run Tryz.prog W = .ok (s.toList == s'.toList) W := fun W => run_equalIn_string W 9998 _ _ _ rfl
  cases h1 : (p == p') <;> cases h2 : (s.toList == s'.toList)
  all_goals
    rw [h1] at E1
    rw [h2] at E2
    go_simp
    try simp only [E1, E2, Result.andThen_ok, Bool.true_eq_false, if_true, if_false]
    try go_simp
theorem run_neqOcc (p p' : Int) (s s' : ByteArray) (W : World) : (binOp .neq 81 (.agg #[.int .i64 p, .string s]) (.agg #[.int .i64 p', .string s'])).run Tryz.prog W = .ok (.bool !((p == p') && (s.toList == s'.toList))) W := by
  rw [run_neq_struct, run_eqOcc]
  rfl
theorem run_eqlOcc (p p' : Int) (s s' : ByteArray) (W : World) : (binOp .eql 81 (.agg #[.int .i64 p, .string s]) (.agg #[.int .i64 p', .string s'])).run Tryz.prog W = .ok (.bool ((p == p') && (s.toList == s'.toList))) W := by
  rw [run_eql_struct, run_eqOcc]
  rfl
theorem CellsAt.sub {w : World} {b : Nat} {cs : List Value} (h : CellsAt w b 0 cs) (k n : Nat) : CellsAt w b k ((cs.drop k).take n) := fun j u hu => by
  rw [List.getElem?_take] at hu
  split at hu
  · rw [List.getElem?_drop] at hu
    have := h (k + j) u hu
    rwa [Nat.zero_add] at this
  · cases hu
theorem sub_len {cs : List Value} {m : Nat} (h : cs.length = m) (k n : Nat) (hk : k + n ≤ m) : ((cs.drop k).take n).length = n := by simp; omega
end Go.Proofs.YthlhhnnlbpecnaaGreat

/- Whether a number lies in a range. Conditions: none. -/
namespace Go.Proofs.YthlhhnnlbpecnaaGreat
set_option linter.unusedSimpArgs false
set_option linter.unusedVariables false
set_option maxRecDepth 100000
open Go.RowKit

def inR (x lo hi : Int) : Bool := decide (lo ≤ x ∧ x ≤ hi)
theorem inR_yes {x lo hi : Int} (h : lo ≤ x ∧ x ≤ hi) : inR x lo hi = true := by unfold inR; exact decide_eq_true h
theorem inR_no {x lo hi : Int} (h : ¬ (lo ≤ x ∧ x ≤ hi)) : inR x lo hi = false := by unfold inR; exact decide_eq_false h
theorem s_l1In (x lo hi : Int) (w : World) : Calls Tryz.prog 11 #[.int .i64 x, .int .i64 lo, .int .i64 hi] w fun e w' => e = .returned (.bool (inR x lo hi)) ∧ w = w' := by
  by_cases h1 : lo ≤ x
  all_goals
    go_enter Tryz.func11, Tryz.ntmps11
    go_wp2
    go_ret
    exact ⟨ret_bool (by unfold inR; rw [Bool.eq_iff_iff]; simp; omega), rfl⟩
theorem i_within (x lo hi : Int) (w : World) : Calls Tryz.prog 16 #[.int .i64 x, .int .i64 lo, .int .i64 hi] w fun e w' => e = .returned (.bool (inR x lo hi)) ∧ w = w' := by
  by_cases h1 : lo ≤ x
  all_goals
    go_enter Tryz.func16, Tryz.ntmps16
    go_wp2
    go_ret
    exact ⟨ret_bool (by unfold inR; rw [Bool.eq_iff_iff]; simp; omega), rfl⟩

end Go.Proofs.YthlhhnnlbpecnaaGreat

/- Expressions: equality of both sides. Conditions: none beyond that the expressions can be read. -/
namespace Go.Proofs.YthlhhnnlbpecnaaGreat
set_option linter.unusedSimpArgs false
set_option linter.unusedVariables false
set_option maxRecDepth 100000
open Go.RowKit Go.WideShapes

theorem box2_below {w w' : World} {bx b2 : Obj} (h : Below (w.heap.size + 2) ((w.alloc bx).alloc b2) w') : Below w.heap.size w w' := by
  have := box_below (w := w.alloc bx) (o := b2) (by rw [World.size_alloc]; exact h)
  rw [World.size_alloc] at this
  exact box_below this

theorem i_sameNode (d : Nat) (a b : Ex) (ca cb : List Value) (Fa Fb : List Nat) (w : World) (h : ExR (d + 1) w a ca Fa) (h' : ExR (d + 1) w b cb Fb) :
    Calls Tryz.prog 162 #[.agg ca.toArray, .agg cb.toArray] w fun en w' => en = .returned (.bool (eqHead a.h b.h)) ∧ Below w.heap.size w w' := by
    obtain ⟨A, cap, rfl, _, hl, hm, hs⟩ := ex_form h
    obtain ⟨A', cap', rfl, _, hl', hm', hs'⟩ := ex_form h'
    have HF := hide (hs.lt (ExR.good d))
    have HF' := hide (hs'.lt (ExR.good d))
    generalize hqa : eqHead a.h b.h = q
    have Hq := hide hqa
    clear hqa h h'
    obtain ⟨⟨k, n, p, t, s, m⟩, l⟩ := a
    obtain ⟨⟨k', n', p', t', s', m'⟩, l'⟩ := b
    simp only [Ex.args] at hs hs' hl hl' hm hm' HF HF'
    show Calls _ _ #[.agg #[.int .i64 k, .int .i64 n, .int .i64 p, .int .i64 t, .string s, .string m, .slice A l.length cap], .agg #[.int .i64 k', .int .i64 n', .int .i64 p', .int .i64 t', .string s', .string m', .slice A' l'.length cap']] w _
    simp only [Ex.h] at Hq
    by_cases h1 : k = k'
    · by_cases h2 : n = n'
      · by_cases h3 : p = p'
        · by_cases h4 : t = t'
          · by_cases h5 : s = s'
            · by_cases h6 : m = m'
              · subst h1 h2 h3 h4 h5 h6
                have hqq : q = true := by rw [← Hq.out]; simp [eqHead]
                rw [hqq]
                clear hqq Hq
                go_enter Tryz.func162, Tryz.ntmps162
                go_wp2_with fail
                go_ret
                exact ⟨rfl, ((Below.refl _ _).alloc (Nat.le_refl _) _).alloc (by simp) _⟩
              · have e1 : (m.toList != m'.toList) = true := by rw [bne_iff_ne]; intro e; exact h6 (by simpa [bytes_beq] using beq_iff_eq.2 e)
                have e2 : (m.toList == m'.toList) = false := by rw [bytes_beq]; simpa using h6
                subst h1 h2 h3 h4 h5
                have hqq : q = false := by rw [← Hq.out]; simp [eqHead, e2]
                rw [hqq]
                clear hqq Hq
                go_enter Tryz.func162, Tryz.ntmps162
                go_wp2_with fail
                go_ret
                exact ⟨rfl, ((Below.refl _ _).alloc (Nat.le_refl _) _).alloc (by simp) _⟩
            · have e1 : (s.toList != s'.toList) = true := by rw [bne_iff_ne]; intro e; exact h5 (by simpa [bytes_beq] using beq_iff_eq.2 e)
              have e2 : (s.toList == s'.toList) = false := by rw [bytes_beq]; simpa using h5
              subst h1 h2 h3 h4
              have hqq : q = false := by rw [← Hq.out]; simp [eqHead, e2]
              rw [hqq]
              clear hqq Hq
              go_enter Tryz.func162, Tryz.ntmps162
              go_wp2_with fail
              go_ret
              exact ⟨rfl, ((Below.refl _ _).alloc (Nat.le_refl _) _).alloc (by simp) _⟩
          · have e1 : (t != t') = true := by rw [bne_iff_ne]; exact h4
            have e2 : (t == t') = false := by rw [beq_eq_false_iff_ne]; exact h4
            subst h1 h2 h3
            have hqq : q = false := by rw [← Hq.out]; simp [eqHead, e2]
            rw [hqq]
            clear hqq Hq
            go_enter Tryz.func162, Tryz.ntmps162
            go_wp2_with fail
            go_ret
            exact ⟨rfl, ((Below.refl _ _).alloc (Nat.le_refl _) _).alloc (by simp) _⟩
        · have e1 : (p != p') = true := by rw [bne_iff_ne]; exact h3
          have e2 : (p == p') = false := by rw [beq_eq_false_iff_ne]; exact h3
          subst h1 h2
          have hqq : q = false := by rw [← Hq.out]; simp [eqHead, e2]
          rw [hqq]
          clear hqq Hq
          go_enter Tryz.func162, Tryz.ntmps162
          go_wp2_with fail
          go_ret
          exact ⟨rfl, ((Below.refl _ _).alloc (Nat.le_refl _) _).alloc (by simp) _⟩
      · have e1 : (n != n') = true := by rw [bne_iff_ne]; exact h2
        have e2 : (n == n') = false := by rw [beq_eq_false_iff_ne]; exact h2
        subst h1
        have hqq : q = false := by rw [← Hq.out]; simp [eqHead, e2]
        rw [hqq]
        clear hqq Hq
        go_enter Tryz.func162, Tryz.ntmps162
        go_wp2_with fail
        go_ret
        exact ⟨rfl, ((Below.refl _ _).alloc (Nat.le_refl _) _).alloc (by simp) _⟩
    · have e1 : (k != k') = true := by rw [bne_iff_ne]; exact h1
      have e2 : (k == k') = false := by rw [beq_eq_false_iff_ne]; exact h1
      have hqq : q = false := by rw [← Hq.out]; simp [eqHead, e2]
      rw [hqq]
      clear hqq Hq
      go_enter Tryz.func162, Tryz.ntmps162
      go_wp2_with fail
      go_ret
      exact ⟨rfl, ((Below.refl _ _).alloc (Nat.le_refl _) _).alloc (by simp) _⟩

end Go.Proofs.YthlhhnnlbpecnaaGreat

/- Rules: the symbol at a position; comparisons of rules. Conditions: none beyond that the rules can be read. -/
namespace Go.Proofs.YthlhhnnlbpecnaaGreat
set_option linter.unusedSimpArgs false
set_option linter.unusedVariables false
set_option maxRecDepth 100000
open Go.RowKit Go.WideShapes
set_option linter.unusedVariables false

def symAt (x : Rul) (pos : Int) : ByteArray := if pos = 0 then x.left else if 1 ≤ pos ∧ pos ≤ x.right.length then x.right.getD (pos - 1).toNat ⟨#[]⟩ else ⟨#[]⟩
set_option maxRecDepth 100000 in
theorem s_SymbolAt (D : Nat) (x : Rul) (cs : List Value) (F : List Nat) (w : World) (h : RulR D w x cs F) (pos : Int) (hpos : (Lit.int .i64 pos).wf = true) :
    Calls Tryz.prog 70 #[.agg cs.toArray, .int .i64 pos] w fun en w' => en = .returned (.string (symAt x pos)) ∧ Below w.heap.size w w' := by
  obtain ⟨c0, c1, c2, c3, c4, c5, rfl⟩ := list_6 ((RulR.good D).len h)
  obtain ⟨v2, F2, v4, F4, v5, F5, _, hk, h0, h1, ⟨h2, g2⟩, h3, ⟨h4, g4⟩, ⟨h5, g5⟩, rfl⟩ := h
  obtain rfl := Option.some.inj h0
  obtain rfl := Option.some.inj h1
  obtain rfl := Option.some.inj h2
  obtain rfl := Option.some.inj h3
  obtain rfl := Option.some.inj h4
  obtain rfl := Option.some.inj h5
  obtain ⟨A, cap, rfl, hlc, hm⟩ := g2.form
  unfold maxLen at hm
  have hmm : x.right.length ≤ 9223372036854775807 := by omega
  have hr := g2.strs.1
  clear hk g2 g4 g5 hlc hm
  by_cases hp0 : pos = 0
  · have hq : symAt x pos = x.left := by unfold symAt; rw [if_pos hp0]
    rw [hq]
    subst hp0
    go_enter Tryz.func70, Tryz.ntmps70
    go_wp2
    go_ret
    exact ⟨rfl, (Below.refl _ _).alloc (Nat.le_refl _) _⟩
  have e0 : (pos == 0) = false := by simpa using hp0
  by_cases hp : 1 ≤ pos ∧ pos ≤ x.right.length
  · obtain ⟨hp1, hp2⟩ := hp
    obtain ⟨k, hk⟩ := Int.eq_ofNat_of_zero_le (show 0 ≤ pos - 1 by omega)
    obtain rfl : pos = (k : Int) + 1 := by omega
    have hkl : k < x.right.length := by omega
    obtain ⟨b, off, y, hA, hb, hx, hc⟩ := hr.get hkl
    have hq : symAt x ((k : Int) + 1) = y := by
      unfold symAt
      rw [if_neg hp0, if_pos ⟨hp1, hp2⟩, show ((k : Int) + 1 - 1).toNat = k by omega, List.getD, hx]
      rfl
    rw [hq]
    subst hA
    have hk0 : (0 : Int) ≤ (k : Int) := by omega
    have hk1 : (k : Int) < (x.right.length : Int) := by omega
    have hes : (k : Int) + 1 - 1 = (k : Int) := by omega
    have Hx := hide hx
    have hin := inR_yes ⟨hp1, hp2⟩
    clear hr hx hq hk
    go_enter Tryz.func70, Tryz.ntmps70
    go_wp2_with (go_at_call 11; refine (s_l1In _ _ _ _).mono ?_; rintro e w' ⟨rfl, rfl⟩)
    go_ret
    exact ⟨rfl, (Below.refl _ _).alloc (Nat.le_refl _) _⟩
  · have hq : symAt x pos = ⟨#[]⟩ := by unfold symAt; rw [if_neg hp0, if_neg hp]
    rw [hq]
    have hin := inR_no hp
    clear hr hp hq
    go_enter Tryz.func70, Tryz.ntmps70
    go_wp2_with (go_at_call 11; refine (s_l1In _ _ _ _).mono ?_; rintro e w' ⟨rfl, rfl⟩)
    go_ret
    exact ⟨rfl, (Below.refl _ _).alloc (Nat.le_refl _) _⟩
set_option maxRecDepth 100000 in
theorem i_SymbolAt (D : Nat) (x : Rul) (cs : List Value) (F : List Nat) (w : World) (h : RulR D w x cs F) (pos : Int) (hpos : (Lit.int .i64 pos).wf = true) :
    Calls Tryz.prog 45 #[.agg cs.toArray, .int .i64 pos] w fun en w' => en = .returned (.string (symAt x pos)) ∧ Below w.heap.size w w' := by
  obtain ⟨c0, c1, c2, c3, c4, c5, rfl⟩ := list_6 ((RulR.good D).len h)
  obtain ⟨v2, F2, v4, F4, v5, F5, _, hk, h0, h1, ⟨h2, g2⟩, h3, ⟨h4, g4⟩, ⟨h5, g5⟩, rfl⟩ := h
  obtain rfl := Option.some.inj h0
  obtain rfl := Option.some.inj h1
  obtain rfl := Option.some.inj h2
  obtain rfl := Option.some.inj h3
  obtain rfl := Option.some.inj h4
  obtain rfl := Option.some.inj h5
  obtain ⟨A, cap, rfl, hlc, hm⟩ := g2.form
  unfold maxLen at hm
  have hmm : x.right.length ≤ 9223372036854775807 := by omega
  have hr := g2.strs.1
  clear hk g2 g4 g5 hlc hm
  by_cases hp0 : pos = 0
  · have hq : symAt x pos = x.left := by unfold symAt; rw [if_pos hp0]
    rw [hq]
    subst hp0
    go_enter Tryz.func45, Tryz.ntmps45
    go_wp2
    go_ret
    exact ⟨rfl, (Below.refl _ _).alloc (Nat.le_refl _) _⟩
  have e0 : (pos == 0) = false := by simpa using hp0
  by_cases hp : 1 ≤ pos ∧ pos ≤ x.right.length
  · obtain ⟨hp1, hp2⟩ := hp
    obtain ⟨k, hk⟩ := Int.eq_ofNat_of_zero_le (show 0 ≤ pos - 1 by omega)
    obtain rfl : pos = (k : Int) + 1 := by omega
    have hkl : k < x.right.length := by omega
    obtain ⟨b, off, y, hA, hb, hx, hc⟩ := hr.get hkl
    have hq : symAt x ((k : Int) + 1) = y := by
      unfold symAt
      rw [if_neg hp0, if_pos ⟨hp1, hp2⟩, show ((k : Int) + 1 - 1).toNat = k by omega, List.getD, hx]
      rfl
    rw [hq]
    subst hA
    have hk0 : (0 : Int) ≤ (k : Int) := by omega
    have hk1 : (k : Int) < (x.right.length : Int) := by omega
    have hes : (k : Int) + 1 - 1 = (k : Int) := by omega
    have Hx := hide hx
    have hin := inR_yes ⟨hp1, hp2⟩
    clear hr hx hq hk
    go_enter Tryz.func45, Tryz.ntmps45
    go_wp2_with (go_at_call 16; refine (i_within _ _ _ _).mono ?_; rintro e w' ⟨rfl, rfl⟩)
    go_ret
    exact ⟨rfl, (Below.refl _ _).alloc (Nat.le_refl _) _⟩
  · have hq : symAt x pos = ⟨#[]⟩ := by unfold symAt; rw [if_neg hp0, if_neg hp]
    rw [hq]
    have hin := inR_no hp
    clear hr hp hq
    go_enter Tryz.func45, Tryz.ntmps45
    go_wp2_with (go_at_call 16; refine (i_within _ _ _ _).mono ?_; rintro e w' ⟨rfl, rfl⟩)
    go_ret
    exact ⟨rfl, (Below.refl _ _).alloc (Nat.le_refl _) _⟩
end Go.Proofs.YthlhhnnlbpecnaaGreat

/- Slices of structs with one element written anew. Plain: no program. -/
namespace Go.Proofs.YthlhhnnlbpecnaaGreat
set_option linter.unusedSimpArgs false
set_option linter.unusedVariables false
set_option maxRecDepth 100000
open Go.RowKit

/-- Elements whose own cells and blocks stand as they stood, in a block that may have turned elsewhere. -/
theorem ElR.move {α : Type} {n : Nat} {R : CR α} (hR : Good n R) {w W : World} {b : Nat} (hz : w.heap.size ≤ W.heap.size) :
    ∀ {xs : List α} {off : Nat} {F : List Nat}, ElR n R w b off xs F → (∀ i, off ≤ i → i < off + xs.length * n → W.cell? ⟨b, i, none⟩ = w.cell? ⟨b, i, none⟩) → (∀ k ∈ F, W.heap[k]? = w.heap[k]?) → ElR n R W b off xs F
  | [], _, _, h, _, _ => h
  | x :: r, off, F, h, hc, hF => by
    obtain ⟨cs, F1, F2, rfl, h1, h2, h3⟩ := h
    have hl := hR.len h2
    rw [List.length_cons, Nat.add_mul] at hc
    refine ⟨cs, F1, F2, rfl, fun j u hu => ?_, hR.frame h2 (fun k hk => hF k (by simp [hk])) hz, ElR.move hR hz h3 (fun i h4 h5 => hc i (by omega) (by omega)) (fun k hk => hF k (by simp [hk]))⟩
    have hj := (List.getElem?_eq_some_iff.1 hu).1
    rw [hc (off + j) (by omega) (by omega)]
    exact h1 j u hu
/-- Element j written anew. -/
theorem ElR.set {α : Type} {n : Nat} {R : CR α} (hR : Good n R) {w W : World} {b off j : Nat} {xs : List α} {F1 Fk F2 : List Nat} {y : α} {vs : List Value} (hz : w.heap.size ≤ W.heap.size) (hj : j < xs.length)
    (h1 : ElR n R w b off (xs.take j) F1) (h2 : ElR n R w b (off + (j + 1) * n) (xs.drop (j + 1)) F2) (hy : R W y vs Fk) (hvs : CellsAt W b (off + j * n) vs)
    (hc : ∀ i, i < off + j * n ∨ off + (j + 1) * n ≤ i → W.cell? ⟨b, i, none⟩ = w.cell? ⟨b, i, none⟩) (hF1 : ∀ k ∈ F1, W.heap[k]? = w.heap[k]?) (hF2 : ∀ k ∈ F2, W.heap[k]? = w.heap[k]?) :
    ElR n R W b off (xs.take j ++ y :: xs.drop (j + 1)) (F1 ++ (Fk ++ F2)) := by
  have hl : (xs.take j).length = j := by simp; omega
  have g1 := ElR.move hR hz h1 (fun i h3 h4 => hc i (.inl (by rw [hl] at h4; exact h4))) hF1
  have g2 := ElR.move hR hz h2 (fun i h3 h4 => hc i (.inr h3)) hF2
  refine g1.append ?_
  rw [hl]
  refine ⟨vs, Fk, F2, rfl, hvs, hy, ?_⟩
  rw [show off + j * n + n = off + (j + 1) * n by rw [Nat.add_mul]; omega]
  exact g2
/-- From w to W: in block b the cells from o on hold vs, the others there are as they were; the blocks beside b and X stand; new blocks may have come. -/
structure PutG (w : World) (b o : Nat) (X : List Nat) (vs : List Value) (W : World) : Prop where
  blk : ∃ bs bs' t, w.heap[b]? = some (.cells bs t (0, 0)) ∧ W.heap[b]? = some (.cells bs' t (0, 0)) ∧ bs'.size = bs.size ∧ (∀ i, i < o ∨ o + vs.length ≤ i → bs'[i]? = bs[i]?) ∧ (∀ i u, vs[i]? = some u → bs'[o + i]? = some u)
  far : ∀ k, k < w.heap.size → k ≠ b → k ∉ X → W.heap[k]? = w.heap[k]?
  size : w.heap.size ≤ W.heap.size
  os : W.os = w.os
  tape : W.tape = w.tape
  output : W.output = w.output
theorem PutG.nil {w : World} {b o : Nat} {X : List Nat} {bs : Array Value} {t : TypeId} (h : w.heap[b]? = some (.cells bs t (0, 0))) : PutG w b o X [] w :=
  ⟨⟨bs, bs, t, h, h, rfl, fun _ _ => rfl, fun _ _ hu => by simp at hu⟩, fun _ _ _ _ => rfl, Nat.le_refl _, rfl, rfl, rfl⟩
theorem PutG.lt {w W : World} {b o : Nat} {X : List Nat} {vs : List Value} (h : PutG w b o X vs W) : b < w.heap.size := by
  obtain ⟨bs, bs', t, h1, _⟩ := h.blk
  exact blk_lt h1
theorem PutG.store {w W : World} {b o : Nat} {X : List Nat} {vs : List Value} (h : PutG w b o X vs W) (u : Value) {c : Value} (hc : W.cell? ⟨b, o + vs.length, none⟩ = some c) : PutG w b o X (vs ++ [u]) (W.setCell ⟨b, o + vs.length, none⟩ u) := by
  obtain ⟨⟨bs, bs', t, h1, h2, h3, h4, h5⟩, hf, hs, e1, e2, e3⟩ := h
  have hlt : o + vs.length < bs'.size := by
    rw [cell_of_row _ _ _ _ _ _ h2] at hc
    exact (Array.getElem?_eq_some_iff.1 hc).1
  refine ⟨⟨bs, bs'.setIfInBounds (o + vs.length) u, t, h1, heap_setCell_same W b _ bs' t u h2, by simpa using h3, fun i hi => ?_, fun i v hv => ?_⟩, fun k hk hb hX => (heap_setCell_other W _ k u (by simpa using hb)).trans (hf k hk hb hX), by simpa [World.setCell] using hs, e1, e2, e3⟩
  · rw [List.length_append, List.length_singleton] at hi
    rw [Array.getElem?_setIfInBounds, if_neg (by omega)]
    exact h4 i (by omega)
  · rw [Array.getElem?_setIfInBounds]
    by_cases hi : i = vs.length
    · subst hi
      rw [if_pos rfl, if_pos hlt]
      simpa using hv
    · have hil := (List.getElem?_eq_some_iff.1 hv).1
      rw [List.length_append, List.length_singleton] at hil
      rw [if_neg (by omega)]
      rw [List.getElem?_append_left (by omega)] at hv
      exact h5 i v hv
theorem PutG.below {w W W' : World} {b o : Nat} {X : List Nat} {vs : List Value} (h : PutG w b o X vs W) (hb : Below W.heap.size W W') : PutG w b o X vs W' := by
  have hlt := h.lt
  obtain ⟨⟨bs, bs', t, h1, h2, h3, h4, h5⟩, hf, hs, e1, e2, e3⟩ := h
  exact ⟨⟨bs, bs', t, h1, (hb.block b (blk_lt h2)).trans h2, h3, h4, h5⟩, fun k hk hkb hX => (hb.block k (by omega)).trans (hf k hk hkb hX), Nat.le_trans hs hb.size, hb.os.trans e1, hb.tape.trans e2, hb.output.trans e3⟩
theorem PutG.cell {w W : World} {b o : Nat} {X : List Nat} {vs : List Value} (h : PutG w b o X vs W) {i : Nat} {c : Value} (hi : i < o ∨ o + vs.length ≤ i) (hc : w.cell? ⟨b, i, none⟩ = some c) : W.cell? ⟨b, i, none⟩ = some c := by
  obtain ⟨bs, bs', t, h1, h2, h3, h4, h5⟩ := h.blk
  rw [cell_of_row _ _ _ _ _ _ h1] at hc
  rw [cell_of_row _ _ _ _ _ _ h2, h4 i hi]
  exact hc
theorem PutG.frozen {w W : World} {b o : Nat} {X : List Nat} {vs : List Value} (h : PutG w b o X vs W) (i : Nat) : W.frozen? ⟨b, i, none⟩ = false := by
  obtain ⟨bs, bs', t, h1, h2, _⟩ := h.blk
  exact frozen_of_row _ _ _ _ _ h2
theorem PutG.same {w W : World} {b o n : Nat} {X : List Nat} {vs : List Value} (h : PutG w b o X vs W) (hn : vs.length = n) : ∀ i, i < o ∨ o + n ≤ i → W.cell? ⟨b, i, none⟩ = w.cell? ⟨b, i, none⟩ := fun i hi => by
  obtain ⟨bs, bs', t, h1, h2, h3, h4, h5⟩ := h.blk
  rw [cell_of_row _ _ _ _ _ _ h2, cell_of_row _ _ _ _ _ _ h1, h4 i (by omega)]
theorem PutG.cellsAt {w W : World} {b o : Nat} {X : List Nat} {vs : List Value} (h : PutG w b o X vs W) : CellsAt W b o vs := fun j u hu => by
  obtain ⟨bs, bs', t, h1, h2, h3, h4, h5⟩ := h.blk
  rw [cell_of_row _ _ _ _ _ _ h2]
  exact h5 j u hu
theorem PutG.keep {w W : World} {b o : Nat} {X : List Nat} {vs : List Value} (h : PutG w b o X vs W) {u : Value} (hc : W.cell? ⟨b, o + vs.length, none⟩ = some u) : PutG w b o X (vs ++ [u]) W := by
  obtain ⟨⟨bs, bs', t, h1, h2, h3, h4, h5⟩, hf, hs, e1, e2, e3⟩ := h
  rw [cell_of_row _ _ _ _ _ _ h2] at hc
  refine ⟨⟨bs, bs', t, h1, h2, h3, fun i hi => h4 i (by rw [List.length_append, List.length_singleton] at hi; omega), fun i v hv => ?_⟩, hf, hs, e1, e2, e3⟩
  by_cases hi : i = vs.length
  · subst hi
    simp at hv
    subst hv
    exact hc
  · have hil := (List.getElem?_eq_some_iff.1 hv).1
    rw [List.length_append, List.length_singleton] at hil
    rw [List.getElem?_append_left (by omega)] at hv
    exact h5 i v hv
theorem PutG.freshX {w W : World} {b o C : Nat} {X : List Nat} {vs : List Value} {F : List Nat} (h : PutG w b o X vs W) (hf : Fresh C w F) (hX : ∀ k ∈ X, ∃ cs t, W.heap[k]? = some (.cells cs t (0, 0))) : Fresh C W F :=
  ⟨hf.nodup, hf.from_, fun k hk => by
    by_cases hkX : k ∈ X
    · exact hX k hkX
    by_cases hkb : k = b
    · subst hkb
      obtain ⟨bs, bs', t, _, h2, _⟩ := h.blk
      exact ⟨bs', t, h2⟩
    · rw [h.far k (hf.lt k hk) hkb hkX]
      exact hf.cells k hk⟩
theorem PutG.fresh {w W : World} {b o C : Nat} {vs : List Value} {F : List Nat} (h : PutG w b o [] vs W) (hf : Fresh C w F) : Fresh C W F :=
  ⟨hf.nodup, hf.from_, fun k hk => by
    by_cases hkb : k = b
    · subst hkb
      obtain ⟨bs, bs', t, _, h2, _⟩ := h.blk
      exact ⟨bs', t, h2⟩
    · rw [h.far k (hf.lt k hk) hkb (by simp)]
      exact hf.cells k hk⟩
end Go.Proofs.YthlhhnnlbpecnaaGreat
