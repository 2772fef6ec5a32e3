/- Symbols and rules sought in a grammar, in its own memory: the program's. Conditions: none beyond that the grammar can be read. -/
import Derived.Test.YtaihdnlpdibkoaaFindP
import Derived.Test.YtaihdnlpdibkoaaBox
namespace Go.Proofs.Ytaihdnlpdibkoaa
set_option maxRecDepth 100000
open Go.RowKit Go.WideShapes
set_option linter.unusedVariables false

theorem SymR.name {D : Nat} {w : World} {x : Sym} {cs : List Value} {F : List Nat} (h : SymR D w x cs F) : cs[0]? = some (.string x.name) := by
  obtain ⟨_, _, _, _, h0, _⟩ := h
  exact h0
theorem RulR.name {D : Nat} {w : World} {x : Rul} {cs : List Value} {F : List Nat} (h : RulR D w x cs F) : cs[0]? = some (.string x.name) := by
  obtain ⟨_, _, _, _, _, _, _, _, h0, _⟩ := h
  exact h0
theorem RulR.left {D : Nat} {w : World} {x : Rul} {cs : List Value} {F : List Nat} (h : RulR D w x cs F) : cs[1]? = some (.string x.left) := by
  obtain ⟨_, _, _, _, _, _, _, _, _, h0, _⟩ := h
  exact h0
/-- A struct found in the memory that came in. -/
def FoundInSym (D : Nat) (F : List Nat) (w : World) (o : Option Sym) (en : Ending) (w' : World) : Prop :=
  ∃ us F', en = .returned (.tuple #[.agg (List.toArray us), .bool o.isSome]) ∧ SymR D w' (o.getD Sym.zero) us F' ∧ (∀ k ∈ F', k ∈ F) ∧ Below w.heap.size w w'
/-- A struct found in the memory that came in. -/
def FoundInRul (D : Nat) (F : List Nat) (w : World) (o : Option Rul) (en : Ending) (w' : World) : Prop :=
  ∃ us F', en = .returned (.tuple #[.agg (List.toArray us), .bool o.isSome]) ∧ RulR D w' (o.getD Rul.zero) us F' ∧ (∀ k ∈ F', k ∈ F) ∧ Below w.heap.size w w'
set_option maxRecDepth 100000 in
set_option maxHeartbeats 2000000 in
theorem i_findRule (D : Nat) (x : Grm) (cs : List Value) (F : List Nat) (w : World) (h : GrmR D w x cs F) (s : ByteArray) :
    Calls Try.prog 40 #[.agg cs.toArray, .string s] w (FoundInRul D F w (findR x.rules s)) := by
  obtain ⟨p0, p1, rfl⟩ := list2 ((GrmR.good D).len h)
  obtain ⟨v0, F0, v1, F1, _, ⟨h0, g0⟩, ⟨h1, g1⟩, rfl⟩ := h
  obtain rfl := Option.some.inj h0
  obtain rfl := Option.some.inj h1
  obtain ⟨A0, k0, rfl, hc0, hm0⟩ := g0.form
  obtain ⟨A1, k1, rfl, hc1, hm1⟩ := g1.form
  unfold maxLen at hm0 hm1
  have L := hide (g1.lt (RulR.good D))
  have Hs := hide g1
  have hll : x.rules.length ≤ 9223372036854775807 := by omega
  have hi : (Try.prog.info? 31).map (·.size) = some 6 := by kernel_rfl
  have Hi := hide hi
  obtain ⟨C0, hR0, hz0, hw0⟩ := boxR w [.slice A0 x.symbols.length k0, .slice A1 x.rules.length k1] [.string ⟨#[]⟩, .string ⟨#[]⟩, .slice none 0 0, .bool false, .slice none 0 0, .slice none 0 0] 37 31
  show Calls _ _ #[.agg #[.slice A0 x.symbols.length k0, .slice A1 x.rules.length k1], .string s] w _
  clear g0 g1 h0 h1 hc0 hc1 hm0 hm1 hi
  go_enter Try.func40, Try.ntmps40
  go_wp2_with fail
  generalize (w.alloc (Obj.cells #[.slice A0 x.symbols.length k0, .slice A1 x.rules.length k1] 37)).alloc (Obj.cells #[.string ⟨#[]⟩, .string ⟨#[]⟩, .slice none 0 0, .bool false, .slice none 0 0, .slice none 0 0] 31) = W0 at C0 hR0 hz0 hw0 ⊢
  have hn0 : w.heap.size + 2 ≤ W0.heap.size := by omega
  have Hw : Hid (∀ W : World, Below (w.heap.size + 2) W0 W → Below w.heap.size w W) := hide fun W h => hw0.trans (h.mono (by omega))
  have hB0 : Below (w.heap.size + 2) W0 W0 := Below.refl _ _
  have e0 := cell_rule C0 (n := w.heap.size + 2) (by omega) 0 rfl
  have e1 := cell_rule C0 (n := w.heap.size + 2) (by omega) 1 rfl
  have HR0 : Hid (∀ W : World, Below (w.heap.size + 2) W0 W → W.heap[w.heap.size + 1]? = some (.cells #[.string ⟨#[]⟩, .string ⟨#[]⟩, .slice none 0 0, .bool false, .slice none 0 0, .slice none 0 0] 31 (0, 0))) := hide fun W h => blk_below hR0 h (by omega)
  clear C0 hz0 hw0 hR0
  go_wp2_with fail
  go_loopw [11] (fun i wr => ∃ j : Nat, j ≤ x.rules.length ∧ i = .int .i64 j ∧ Hid (∀ (k : Nat) (y : Rul), k < j → x.rules[k]? = some y → (y.name.toList == s.toList) = false) ∧ Hid (Below (w.heap.size + 2) W0 wr)) (fun i _ => x.rules.length - (intOf i).toNat)
  case atStart => exact ⟨0, by omega, rfl, hide (fun k y hk => absurd hk (by omega)), hide hB0⟩
  case round =>
    obtain ⟨j, hj, rfl, Hno, Hb⟩ := hrel
    have hBr := Hb.out
    by_cases hlt : j < x.rules.length
    · have hX : x.rules[j]? = some x.rules[j] := List.getElem?_eq_getElem hlt
      generalize x.rules[j] = X at hX
      obtain ⟨b, off, cs, Fk, hA, _, hbF, hFk, hcl, hcat, hR⟩ := SlR.get (RulR.good D) Hs.out hX
      subst hA
      have H1 := hide (RulR.one hR)
      have hRk := hR
      obtain ⟨c0, c1, c2, c3, c4, c5, rfl⟩ := list_6 hcl
      have hc0 : c0 = .string X.name := Option.some.inj (by simpa using RulR.name hR)
      subst hc0
      have HR := hide hRk
      have HX := hide hX
      have HFk := hide hFk
      have HlF : Hid (∀ k ∈ Fk, k < w.heap.size) := hide fun k hk => L.out k (hFk k hk)
      have hlb : b < w.heap.size := L.out b hbF
      have Hc : Hid (CellsAt wr b (off + j * 6) [.string X.name, c1, c2, c3, c4, c5]) := hide (hcat.below (Hw.out wr hBr) hlb)
      have Hn : Hid ([.string X.name, c1, c2, c3, c4, c5].length = 6) := hide rfl
      have hj0 : (0 : Int) ≤ (j : Int) := by omega
      have hj1 : (j : Int) < (x.rules.length : Int) := by omega
      clear hX hcat hFk hbF hcl hR hRk
      go_wp2_with (first
        | refine wpList_load_at 31 (.tmp 13) rfl Try.underlying31 rfl Hi.out rfl rfl Hn.out Hc.out ?_
        | (refine wpList_store_new 31 (.tmp 7) (.tmp 14) rfl Hi.out rfl rfl rfl rfl Hn.out H1.out rfl ?_; refine hold ?_))
      have C := CellsAt.new wr [.string X.name, c1, c2, c3, c4, c5] 31
      have hz := World.size_alloc wr (Obj.cells #[.string X.name, c1, c2, c3, c4, c5] 31)
      have hwv : Below (w.heap.size + 2) W0 (wr.alloc (Obj.cells #[.string X.name, c1, c2, c3, c4, c5] 31)) := hBr.alloc (Nat.le_trans hn0 hBr.size) _
      generalize wr.alloc (Obj.cells #[.string X.name, c1, c2, c3, c4, c5] 31) = V1 at C hz hwv ⊢
      have ex := cell_rule C (n := wr.heap.size + 1) (by omega) 0 rfl
      have hVV : Below (wr.heap.size + 1) V1 V1 := Below.refl _ _
      have HC := hide C
      clear C hz
      refine Hold.go ?_
      cases hq : (X.name.toList == s.toList)
      · have Hq := hide hq
        go_wp2_with fail
        go_roundw
        case rel =>
          refine ⟨j + 1, by omega, by go_num, hide fun k z hk hz => ?_, hide hwv⟩
          by_cases hkj : k < j
          · exact Hno.out k z hkj hz
          · obtain rfl : k = j := by omega
            have := HX.out
            rw [hz] at this
            obtain rfl := Option.some.inj this
            exact Hq.out
        case measure => simp [intOf]; omega
      · have Hf : Hid (findR x.rules s = some X) := hide (find_hit Hno.out HX.out hq)
        have HZ := hide (HR0.out V1 hwv)
        go_wp2_with (first
          | refine wpList_load_at 31 (.tmp 7) rfl Try.underlying31 rfl Hi.out rfl rfl Hn.out HC.out ?_
          | (refine wpList_store_at 31 (.tmp 4) (.tmp 19) rfl Hi.out rfl rfl rfl Hn.out H1.out HZ.out (by decide) ?_; intro WF hP; have HP := hide hP; clear hP))
        have hW : Below w.heap.size w WF := (Hw.out V1 hwv).trans (HP.out.below (by omega))
        have hC := HP.out.cellsAt
        have x0 := hC 0 _ rfl
        have x1 := hC 1 _ rfl; have x2 := hC 2 _ rfl; have x3 := hC 3 _ rfl; have x4 := hC 4 _ rfl; have x5 := hC 5 _ rfl
        simp only [Nat.zero_add, Nat.add_zero] at x0 x1 x2 x3 x4 x5
        exact bodyPost_ret (v := .tuple #[.agg #[.string X.name, c1, c2, c3, c4, c5], .bool true]) (by simp [results, Try.results40, go_sem, x0, x1, x2, x3, x4, x5]) rfl
          ⟨[.string X.name, c1, c2, c3, c4, c5], Fk, by rw [Hf.out]; rfl, by rw [Hf.out]; exact (RulR.good D).below HR.out hW HlF.out, fun k hk => by have := HFk.out k hk; simp [this], hW⟩
    · have Hf : Hid (findR x.rules s = none) := hide (find_no fun k y hy => Hno.out k y (by have := (List.getElem?_eq_some_iff.1 hy).1; omega) hy)
      have HZ := hide (HR0.out wr hBr)
      have H1z : Hid (∀ v ∈ ([.string ⟨#[]⟩, .string ⟨#[]⟩, .slice none 0 0, .bool false, .slice none 0 0, .slice none 0 0] : List Value), v.oneCell' = true) := hide (RulR.one (RulR.zero D w))
      go_wp2_with (refine wpList_store_at 31 (.tmp 4) (.tmp 21) rfl Hi.out rfl rfl rfl rfl H1z.out HZ.out (by decide) ?_; intro WF hP; have HP := hide hP; clear hP)
      have hW : Below w.heap.size w WF := (Hw.out wr hBr).trans (HP.out.below (by omega))
      have hC := HP.out.cellsAt
      have x0 := hC 0 _ rfl; have x1 := hC 1 _ rfl; have x2 := hC 2 _ rfl; have x3 := hC 3 _ rfl; have x4 := hC 4 _ rfl; have x5 := hC 5 _ rfl
      simp only [Nat.zero_add, Nat.add_zero] at x0 x1 x2 x3 x4 x5
      exact bodyPost_ret (v := .tuple #[.agg #[.string ⟨#[]⟩, .string ⟨#[]⟩, .slice none 0 0, .bool false, .slice none 0 0, .slice none 0 0], .bool false]) (by simp [results, Try.results40, go_sem, x0, x1, x2, x3, x4, x5]) rfl
        ⟨[.string ⟨#[]⟩, .string ⟨#[]⟩, .slice none 0 0, .bool false, .slice none 0 0, .slice none 0 0], [], by rw [Hf.out]; rfl, by rw [Hf.out]; exact RulR.zero D _, by simp, hW⟩
end Go.Proofs.Ytaihdnlpdibkoaa
