/- The rules of a symbol, by their names: both sides. Conditions: the grammar has at most the size 2^20. -/
import Derived.Test.YthifibjkgiggfaaClone
namespace Go.Proofs.Ythifibjkgiggfaa
set_option maxRecDepth 100000
open Go.RowKit Go.WideShapes
set_option linter.unusedVariables false

def rulesT (l : List Rul) (s : ByteArray) : List ByteArray := (l.filter fun r => r.left.toList == s.toList).map (·.name)
theorem rulesT_keep {l : List Rul} {s : ByteArray} {j : Nat} {x : Rul} (hx : l[j]? = some x) (h : (x.left.toList == s.toList) = true) : rulesT (l.take (j + 1)) s = rulesT (l.take j) s ++ [x.name] := by
  unfold rulesT
  rw [take_snoc hx, List.filter_append]
  simp [List.filter, h]
theorem rulesT_drop {l : List Rul} {s : ByteArray} {j : Nat} {x : Rul} (hx : l[j]? = some x) (h : (x.left.toList == s.toList) = false) : rulesT (l.take (j + 1)) s = rulesT (l.take j) s := by
  unfold rulesT
  rw [take_snoc hx, List.filter_append]
  simp [List.filter, h]
theorem rulesT_len (l : List Rul) (s : ByteArray) (j : Nat) : (rulesT (l.take j) s).length ≤ j := by
  unfold rulesT
  rw [List.length_map]
  exact Nat.le_trans (List.length_filter_le _ _) (List.length_take_le _ _)
theorem RulR.oks {D : Nat} {w : World} {x : Rul} {cs : List Value} {F : List Nat} (h : RulR D w x cs F) : x.ok := by
  obtain ⟨_, _, _, _, _, _, _, hk, _⟩ := h
  exact hk
set_option maxRecDepth 100000 in
set_option maxHeartbeats 2000000 in
theorem i_RulesOf (D : Nat) (x : Grm) (cs : List Value) (F : List Nat) (w : World) (h : GrmR D w x cs F) (s : ByteArray) (hbk : bulkGrm D x ≤ 1048576) :
    Calls Try.prog 40 #[.agg cs.toArray, .string s] w fun en w' => ∃ v' G, en = .returned v' ∧ SlR 1 (StrR D) w' (rulesOf x s) v' G ∧ Fresh w.heap.size w' G ∧ Below w.heap.size w w' := by
  obtain ⟨p0, p1, rfl⟩ := list2 ((GrmR.good D).len h)
  obtain ⟨v0, F0, v1, F1, _, ⟨h0, g0⟩, ⟨h1, g1⟩, rfl⟩ := h
  obtain rfl := Option.some.inj h0
  obtain rfl := Option.some.inj h1
  obtain ⟨A0, k0, rfl, hc0, hm0⟩ := g0.form
  obtain ⟨A1, k1, rfl, hc1, hm1⟩ := g1.form
  unfold maxLen at hm0 hm1
  have L := hide (g1.lt (RulR.good D))
  have Hs := hide g1
  have hln := bulk_nrules hbk
  have hll : x.rules.length ≤ 9223372036854775807 := by omega
  have hi : (Try.prog.info? 39).map (·.size) = some 6 := by kernel_rfl
  have Hi := hide hi
  obtain ⟨C0, hz0, hw0⟩ := boxes1 w [.slice A0 x.symbols.length k0, .slice A1 x.rules.length k1] 69
  show Calls _ _ #[.agg #[.slice A0 x.symbols.length k0, .slice A1 x.rules.length k1], .string s] w _
  clear g0 g1 h0 h1 hc0 hc1 hm0 hm1 hi hbk
  go_enter Try.func40, Try.ntmps40
  go_wp2_with fail
  generalize w.alloc (Obj.cells #[.slice A0 x.symbols.length k0, .slice A1 x.rules.length k1] 69) = W0 at C0 hz0 hw0 ⊢
  have hn0 : w.heap.size + 1 ≤ W0.heap.size := by omega
  have Hw : Hid (∀ W : World, Below (w.heap.size + 1) W0 W → Below w.heap.size w W) := hide fun W h => hw0.trans (h.mono (by omega))
  have hB0 : Below (w.heap.size + 1) W0 W0 := Below.refl _ _
  have e1 := cell_rule C0 (n := w.heap.size + 1) (by omega) 1 rfl
  have hBa0 : ∀ (W : World) (o : Obj), Below (w.heap.size + 1) W0 W → Below (w.heap.size + 1) W0 (W.alloc o) := fun W o h => below_alloc hn0 o h
  have Hz0 := hide hz0
  clear C0 hz0 hw0
  go_wp2_with fail
  go_loopw [5, 12] (fun o i wr => ∃ j : Nat, j ≤ x.rules.length ∧ i = .int .i64 j ∧ Hid (OwnS 1 (StrR D) (w.heap.size + 1) 9 wr (rulesT (x.rules.take j) s) o []) ∧ Hid (Below (w.heap.size + 1) W0 wr)) (fun _ i _ => x.rules.length - (intOf i).toNat)
  case atStart => exact ⟨0, by omega, rfl, hide (show OwnS 1 (StrR D) _ _ _ [] _ [] from by have h := OwnS.made (n := 1) (R := StrR D) (e := 9) W0 hn0; rw [Hz0.out] at h; exact h), hide (hB0.alloc hn0 _)⟩
  case round =>
    obtain ⟨j, hj, rfl, Ho, Hb⟩ := hrel
    have hBr := Hb.out
    by_cases hlt : j < x.rules.length
    · have hX : x.rules[j]? = some x.rules[j] := List.getElem?_eq_getElem hlt
      generalize x.rules[j] = X at hX
      obtain ⟨b, off, cs, Fk, hA, _, hbF, hFk, hcl, hcat, hR⟩ := SlR.get (RulR.good D) Hs.out hX
      subst hA
      have H1 := hide (RulR.one hR)
      have Hok := hide (RulR.oks hR)
      obtain ⟨c0, c1, c2, c3, c4, c5, rfl⟩ := list_6 hcl
      have hc0 : c0 = .string X.name := Option.some.inj (by simpa using RulR.name hR)
      have hc1 : c1 = .string X.left := Option.some.inj (by simpa using RulR.left hR)
      subst hc0 hc1
      have HX := hide hX
      have hlb : b < w.heap.size := L.out b hbF
      have hcw := hcat.below (Hw.out wr hBr) hlb
      have Hc := hide hcw
      have Hn : Hid ([.string X.name, .string X.left, c2, c3, c4, c5].length = 6) := hide rfl
      have p0 : wr.cell? ⟨b, off + j * 6, none⟩ = some (.string X.name) := hcw 0 _ rfl
      have p1 : wr.cell? ⟨b, off + j * 6 + 1, none⟩ = some (.string X.left) := hcw 1 _ rfl
      have hj0 : (0 : Int) ≤ (j : Int) := by omega
      have hj1 : (j : Int) < (x.rules.length : Int) := by omega
      have hbase : w.heap.size + 1 ≤ wr.heap.size := Nat.le_trans hn0 hBr.size
      have hlen := rulesT_len x.rules s j
      clear hX hcat hFk hbF hcl hR hcw
      go_wp2_with (first
        | refine wpList_load_at 39 (.tmp 14) rfl Try.underlying39 rfl Hi.out rfl rfl Hn.out Hc.out ?_
        | (refine wpList_store_new 39 (.tmp 7) (.tmp 15) rfl Hi.out rfl rfl rfl rfl Hn.out H1.out rfl ?_; refine hold ?_))
      have C := CellsAt.new wr [.string X.name, .string X.left, c2, c3, c4, c5] 39
      have hz := World.size_alloc wr (Obj.cells #[.string X.name, .string X.left, c2, c3, c4, c5] 39)
      have hwr : Below wr.heap.size wr (wr.alloc (Obj.cells #[.string X.name, .string X.left, c2, c3, c4, c5] 39)) := (Below.refl _ _).alloc (Nat.le_refl _) _
      have hwv : Below (w.heap.size + 1) W0 (wr.alloc (Obj.cells #[.string X.name, .string X.left, c2, c3, c4, c5] 39)) := hBr.alloc hbase _
      generalize wr.alloc (Obj.cells #[.string X.name, .string X.left, c2, c3, c4, c5] 39) = V1 at C hz hwr hwv ⊢
      have ex0 := cell_rule C (n := wr.heap.size + 1) (by omega) 0 rfl
      have ex1 := cell_rule C (n := wr.heap.size + 1) (by omega) 1 rfl
      have hVV : Below (wr.heap.size + 1) V1 V1 := Below.refl _ _
      have Hwr := hide hwr
      clear C hz hwr p0 p1
      refine Hold.go ?_
      cases hq : (X.left.toList == s.toList)
      · have Hk := hide (rulesT_drop (s := s) HX.out hq)
        have Ho1 := hide (Ho.out.below (StrR.good D) Hwr.out)
        go_wp2_with fail
        go_roundw
        case rel => exact ⟨j + 1, by omega, by go_num, hide (by rw [Hk.out]; exact Ho1.out), hide hwv⟩
        case measure => simp [intOf]; omega
      · have Hk := hide (rulesT_keep (s := s) HX.out hq)
        go_wp2_with (at_builtin; refine app_ownS rfl (.tmp 20) (.tmp 23) 22 9 rfl Try.underlying22 infoStr2 rfl (by decide) (StrR.good D) wr V1 (w.heap.size + 1) _ (rulesT (x.rules.take j) s) [] Ho.out rfl Hwr.out X.name [.string X.name] [] ⟨rfl, Hok.out.name, rfl⟩ (Fresh.nil _ _) (by simp [Value.oneCell']) rfl (by omega) (by omega) hbase ?_; intro v1 w1 hown hbl)
        have Hown := hide hown
        have Hbl := hide hbl
        clear hown hbl
        go_wp2_with fail
        go_roundw
        case rel => exact ⟨j + 1, by omega, by go_num, hide (by rw [Hk.out]; exact Hown.out), hide (Hb.out.trans Hbl.out)⟩
        case measure => simp [intOf]; omega
    · have hjl : j = x.rules.length := by omega
      subst hjl
      go_wp2_with fail
      go_ret
      have h := Ho.out
      rw [List.take_length] at h
      obtain ⟨G, h1, h2⟩ := h.slr (StrR.good D)
      exact ⟨_, G, rfl, h1, h2.mono (by omega), Hw.out _ hBr⟩
set_option maxRecDepth 100000 in
set_option maxHeartbeats 2000000 in
theorem s_RulesOf (D : Nat) (x : Grm) (cs : List Value) (F : List Nat) (w : World) (h : GrmR D w x cs F) (s : ByteArray) (hbk : bulkGrm D x ≤ 1048576) :
    Calls Try.prog 39 #[.agg cs.toArray, .string s] w fun en w' => ∃ v' G, en = .returned v' ∧ SlR 1 (StrR D) w' (rulesOf x s) v' G ∧ Fresh w.heap.size w' G ∧ Below w.heap.size w w' := by
  obtain ⟨p0, p1, rfl⟩ := list2 ((GrmR.good D).len h)
  obtain ⟨v0, F0, v1, F1, _, ⟨h0, g0⟩, ⟨h1, g1⟩, rfl⟩ := h
  obtain rfl := Option.some.inj h0
  obtain rfl := Option.some.inj h1
  obtain ⟨A0, k0, rfl, hc0, hm0⟩ := g0.form
  obtain ⟨A1, k1, rfl, hc1, hm1⟩ := g1.form
  unfold maxLen at hm0 hm1
  have L := hide (g1.lt (RulR.good D))
  have Hs := hide g1
  have hln := bulk_nrules hbk
  have hll : x.rules.length ≤ 9223372036854775807 := by omega
  have hi : (Try.prog.info? 39).map (·.size) = some 6 := by kernel_rfl
  have Hi := hide hi
  obtain ⟨C0, hz0, hw0⟩ := boxes1 w [.slice A0 x.symbols.length k0, .slice A1 x.rules.length k1] 69
  show Calls _ _ #[.agg #[.slice A0 x.symbols.length k0, .slice A1 x.rules.length k1], .string s] w _
  clear g0 g1 h0 h1 hc0 hc1 hm0 hm1 hi hbk
  go_enter Try.func39, Try.ntmps39
  go_wp2_with fail
  generalize w.alloc (Obj.cells #[.slice A0 x.symbols.length k0, .slice A1 x.rules.length k1] 69) = W0 at C0 hz0 hw0 ⊢
  have hn0 : w.heap.size + 1 ≤ W0.heap.size := by omega
  have Hw : Hid (∀ W : World, Below (w.heap.size + 1) W0 W → Below w.heap.size w W) := hide fun W h => hw0.trans (h.mono (by omega))
  have hB0 : Below (w.heap.size + 1) W0 W0 := Below.refl _ _
  have e1 := cell_rule C0 (n := w.heap.size + 1) (by omega) 1 rfl
  have hBa0 : ∀ (W : World) (o : Obj), Below (w.heap.size + 1) W0 W → Below (w.heap.size + 1) W0 (W.alloc o) := fun W o h => below_alloc hn0 o h
  have Hz0 := hide hz0
  clear C0 hz0 hw0
  go_wp2_with fail
  go_loopw [5, 6] (fun o i wr => ∃ j : Nat, j ≤ x.rules.length ∧ i = .int .i64 j ∧ Hid (OwnS 1 (StrR D) (w.heap.size + 1) 9 wr (rulesT (x.rules.take j) s) o []) ∧ Hid (Below (w.heap.size + 1) W0 wr)) (fun _ i _ => x.rules.length - (intOf i).toNat)
  case atStart => exact ⟨0, by omega, rfl, hide (show OwnS 1 (StrR D) _ _ _ [] _ [] from by have h := OwnS.made (n := 1) (R := StrR D) (e := 9) W0 hn0; rw [Hz0.out] at h; exact h), hide (hB0.alloc hn0 _)⟩
  case round =>
    obtain ⟨j, hj, rfl, Ho, Hb⟩ := hrel
    have hBr := Hb.out
    by_cases hlt : j < x.rules.length
    · have hX : x.rules[j]? = some x.rules[j] := List.getElem?_eq_getElem hlt
      generalize x.rules[j] = X at hX
      obtain ⟨b, off, cs, Fk, hA, _, hbF, hFk, hcl, hcat, hR⟩ := SlR.get (RulR.good D) Hs.out hX
      subst hA
      have H1 := hide (RulR.one hR)
      have Hok := hide (RulR.oks hR)
      obtain ⟨c0, c1, c2, c3, c4, c5, rfl⟩ := list_6 hcl
      have hc0 : c0 = .string X.name := Option.some.inj (by simpa using RulR.name hR)
      have hc1 : c1 = .string X.left := Option.some.inj (by simpa using RulR.left hR)
      subst hc0 hc1
      have HX := hide hX
      have hlb : b < w.heap.size := L.out b hbF
      have hcw := hcat.below (Hw.out wr hBr) hlb
      have Hc := hide hcw
      have Hn : Hid ([.string X.name, .string X.left, c2, c3, c4, c5].length = 6) := hide rfl
      have p0 : wr.cell? ⟨b, off + j * 6, none⟩ = some (.string X.name) := hcw 0 _ rfl
      have p1 : wr.cell? ⟨b, off + j * 6 + 1, none⟩ = some (.string X.left) := hcw 1 _ rfl
      have hj0 : (0 : Int) ≤ (j : Int) := by omega
      have hj1 : (j : Int) < (x.rules.length : Int) := by omega
      have hbase : w.heap.size + 1 ≤ wr.heap.size := Nat.le_trans hn0 hBr.size
      have hlen := rulesT_len x.rules s j
      clear hX hcat hFk hbF hcl hR hcw
      have Hwr : Hid (Below wr.heap.size wr wr) := hide (Below.refl _ _)
      have hwv := hBr
      cases hq : (X.left.toList == s.toList)
      · have Hk := hide (rulesT_drop (s := s) HX.out hq)
        have Ho1 := hide (Ho.out.below (StrR.good D) Hwr.out)
        go_wp2_with fail
        go_roundw
        case rel => exact ⟨j + 1, by omega, by go_num, hide (by rw [Hk.out]; exact Ho1.out), hide hwv⟩
        case measure => simp [intOf]; omega
      · have Hk := hide (rulesT_keep (s := s) HX.out hq)
        go_wp2_with (at_builtin; refine app_ownS rfl (.tmp 23) (.tmp 30) 22 9 rfl Try.underlying22 infoStr2 rfl (by decide) (StrR.good D) wr wr (w.heap.size + 1) _ (rulesT (x.rules.take j) s) [] Ho.out rfl Hwr.out X.name [.string X.name] [] ⟨rfl, Hok.out.name, rfl⟩ (Fresh.nil _ _) (by simp [Value.oneCell']) rfl (by omega) (by omega) hbase ?_; intro v1 w1 hown hbl)
        have Hown := hide hown
        have Hbl := hide hbl
        clear hown hbl
        go_wp2_with fail
        go_roundw
        case rel => exact ⟨j + 1, by omega, by go_num, hide (by rw [Hk.out]; exact Hown.out), hide (Hb.out.trans Hbl.out)⟩
        case measure => simp [intOf]; omega
    · have hjl : j = x.rules.length := by omega
      subst hjl
      go_wp2_with fail
      go_ret
      have h := Ho.out
      rw [List.take_length] at h
      obtain ⟨G, h1, h2⟩ := h.slr (StrR.good D)
      exact ⟨_, G, rfl, h1, h2.mono (by omega), Hw.out _ hBr⟩
end Go.Proofs.Ythifibjkgiggfaa
