/- Several texts of one proof in one file: A grammar as text: the reference's. A grammar as text: the program's. Conditions: each theorem names its own. -/
import Derived.Test.YtjddmboaaebbiaaGreatDoorGxar
import Derived.Test.YtjddmboaaebbiaaGreatDoorGxao
import Derived.Test.YtjddmboaaebbiaaGreatDoorGxas
import Derived.Test.YtjddmboaaebbiaaGreatDoorGxaa
import Derived.Test.YtjddmboaaebbiaaGreatDoorGxap

/- A grammar as text: the reference's. Conditions: the grammar has at most the size 2^20. -/
namespace Go.Proofs.YtjddmboaaebbiaaGreatDoor
set_option linter.unusedSimpArgs false
set_option linter.unusedVariables false
set_option maxRecDepth 100000
open Go.RowKit Go.WideShapes Go.Lib
set_option linter.unusedVariables false

set_option maxRecDepth 100000 in
set_option maxHeartbeats 4000000 in
theorem s_FormatGrammar (D : Nat) (x : Grm) (cs : List Value) (F : List Nat) (w : World) (h : GrmR D w x cs F) (hbk : bulkGrm D x ≤ 1048576) :
    Calls Tryz.prog 15 #[.agg cs.toArray] w fun en w' => en = .returned (.string (fmtGrm D x)) ∧ Below w.heap.size w w' := by
  obtain ⟨p0, p1, rfl⟩ := list2 ((GrmR.good D).len h)
  obtain ⟨v0, F0, v1, F1, _, ⟨h0, g0⟩, ⟨h1, g1⟩, rfl⟩ := h
  obtain rfl := Option.some.inj h0
  obtain rfl := Option.some.inj h1
  obtain ⟨A0, k0, rfl, hc0, hm0⟩ := g0.form
  obtain ⟨A1, k1, rfl, hc1, hm1⟩ := g1.form
  unfold maxLen at hm0 hm1
  have L0 := hide (g0.lt (SymR.good D))
  have Hs0 : Hid (∀ W : World, Below w.heap.size w W → SlR 2 (SymR D) W x.symbols (.slice A0 x.symbols.length k0) F0) := hide fun W hW => g0.below (SymR.good D) hW L0.out
  have L1 := hide (g1.lt (RulR.good D))
  have Hs1 : Hid (∀ W : World, Below w.heap.size w W → SlR 6 (RulR D) W x.rules (.slice A1 x.rules.length k1) F1) := hide fun W hW => g1.below (RulR.good D) hW L1.out
  have Hsh : Hid (∀ r ∈ x.rules, ∀ y ∈ fmtR D r, y.size ≤ 20000) := hide fun r hr => by
    obtain ⟨q, hq⟩ := List.mem_iff_getElem?.1 hr
    obtain ⟨b, off, cs, Fk, hA, _, _, _, _, _, hR⟩ := SlR.get (RulR.good D) g1 hq
    exact fmtR_short hR
  have Hsz : Hid (∀ j k, (nlT (linesG D x j k)).size ≤ 21000000000) := hide fun j k => nlG_size hbk Hsh.out j k
  have HbS := hide (gq_syms hbk)
  have HbR := hide (gq_rules hbk)
  have Hbk := hide hbk
  have hll : x.symbols.length ≤ 9223372036854775807 := by omega
  have hrl : x.rules.length ≤ 9223372036854775807 := by omega
  have hi2 : Hid ((Tryz.prog.info? 78).map (·.size) = some 2) := hide (by kernel_rfl)
  have hi6 : Hid ((Tryz.prog.info? 32).map (·.size) = some 6) := hide (by kernel_rfl)
  obtain ⟨C0, hz0, hw0⟩ := boxes1 w [.slice A0 x.symbols.length k0, .slice A1 x.rules.length k1] 48
  show Calls _ _ #[.agg #[.slice A0 x.symbols.length k0, .slice A1 x.rules.length k1]] w _
  clear g0 g1 h0 h1 hc0 hc1 hm0 hm1 hbk
  go_enter Tryz.func15, Tryz.ntmps15
  go_wp2_with fail
  generalize w.alloc (Obj.cells #[.slice A0 x.symbols.length k0, .slice A1 x.rules.length k1] 48) = W0 at C0 hz0 hw0 ⊢
  have hn0 : w.heap.size + 1 ≤ W0.heap.size := by omega
  have Hn0 := hide hn0
  have Hw : Hid (∀ W : World, Below (w.heap.size + 1) W0 W → Below w.heap.size w W) := hide fun W h => hw0.trans (h.mono (by omega))
  have hB0 : Below (w.heap.size + 1) W0 W0 := Below.refl _ _
  have e0 := cell_rule C0 (n := w.heap.size + 1) (by omega) 0 rfl
  have e1 := cell_rule C0 (n := w.heap.size + 1) (by omega) 1 rfl
  clear C0 hz0 hw0
  have HN : Hid (nlB = ⟨#[10]⟩) := hide rfl
  have Hz : Hid (nlT (linesG D x 0 0) = ⟨#[]⟩) := hide rfl
  go_wp2_with fail
  go_loopw [3, 4] (fun o i wr => ∃ j : Nat, j ≤ x.symbols.length ∧ i = .int .i64 j ∧ o = .string (nlT (linesG D x j 0)) ∧ Hid ((x.symbols.take j).all validY = true) ∧ Hid (Below (w.heap.size + 1) W0 wr)) (fun _ i _ => x.symbols.length - (RowKit.intOf i).toNat)
  case atStart => exact ⟨0, by omega, rfl, by rw [Hz.out], hide rfl, hide hB0⟩
  case round =>
    obtain ⟨j, hj, rfl, rfl, Hall, Hb⟩ := hrel
    have hBr := Hb.out
    by_cases hlt : j < x.symbols.length
    · have hX : x.symbols[j]? = some x.symbols[j] := List.getElem?_eq_getElem hlt
      generalize x.symbols[j] = X at hX
      obtain ⟨b, off, cs, Fk, hA, _, hbF, hFk, hcl, hcat, hR⟩ := SlR.get (SymR.good D) (Hs0.out _ (Hw.out _ hBr)) hX
      subst hA
      obtain ⟨c0, c1, rfl⟩ := list2 hcl
      have HX := hide hX
      have HR := hide hR
      have Hbx := hide (gq_attrs (HbS.out X (List.mem_of_getElem? hX)))
      have Hc : Hid (CellsAt wr b (off + j * 2) [c0, c1]) := hide hcat
      have Hn : Hid ([c0, c1].length = 2) := hide rfl
      have hj0 : (0 : Int) ≤ (j : Int) := by omega
      have hj1 : (j : Int) < (x.symbols.length : Int) := by omega
      clear hX hcat hFk hbF hcl hR
      go_wp2_with (refine wpList_load_at 78 (.tmp 18) rfl Tryz.underlying78 rfl hi2.out rfl rfl Hn.out Hc.out ?_)
      refine Calls.mono (s_FormatSymbol D X _ Fk wr HR.out Hbx.out) ?_
      rintro en w2 ⟨rfl, hb2⟩
      have hB2 : Below (w.heap.size + 1) W0 w2 := below_step hBr Hn0.out hb2
      clear hb2
      cases hv : validY X
      · have Hf : Hid (fmtGrm D x = ⟨#[]⟩) := hide (fmtGrm_sym HX.out hv)
        rw [fmtSym_no hv]
        clear hv
        go_wp2_with fail
        go_ret
        exact ⟨ret_string Hf.out.symm, Hw.out _ hB2⟩
      · have hy := fmtSym_yes hv
        have hz := fmtSym_short X
        have Hs := hide (all_step HX.out Hall.out hv)
        have Hln : Hid (nlT (linesG D x (j + 1) 0) = nlT (linesG D x j 0) ++ fmtSym X ++ nlB) := hide (by rw [linesG_sym HX.out, nlT_snoc])
        have hoz := Hsz.out j 0
        clear hv
        generalize fmtSym X = T at hy hz Hln ⊢
        generalize nlT (linesG D x j 0) = o at Hln hoz ⊢
        have hne : (T.toList == []) = false := by
          rw [Lib.toList_data]
          cases hd : T.data.toList with
          | nil =>
            have : T.size = 0 := by show T.data.size = 0; rw [← Array.length_toList, hd]; rfl
            omega
          | cons a r => rfl
        have q0 : ¬ 9223372036854775807 < o.size + T.size := by omega
        have q1 : ¬ 9223372036854775807 < o.size + T.size + 1 := by omega
        have HB2 := hide hB2
        go_wp2_with fail
        go_roundw
        case rel => exact ⟨j + 1, by omega, by go_num, by rw [Hln.out, HN.out], Hs, HB2⟩
        case measure => simp [RowKit.intOf]; omega
    · have hjl : j = x.symbols.length := by omega
      subst hjl
      have HallS := hide Hall.out
      obtain ⟨W1, hW1⟩ : ∃ W, W = wr := ⟨_, rfl⟩
      subst hW1
      go_wp2_with fail
      go_loopw [3, 6] (fun o i wr => ∃ j : Nat, j ≤ x.rules.length ∧ i = .int .i64 j ∧ o = .string (nlT (linesG D x x.symbols.length j)) ∧ Hid ((x.rules.take j).all (validRul D) = true) ∧ Hid (Below (w.heap.size + 1) W0 wr)) (fun _ i _ => x.rules.length - (RowKit.intOf i).toNat)
      case atStart => exact ⟨0, by omega, rfl, rfl, hide rfl, Hb⟩
      case round =>
        obtain ⟨j, hj, rfl, rfl, Hall, Hb⟩ := hrel
        have hBr := Hb.out
        by_cases hlt : j < x.rules.length
        · have hX : x.rules[j]? = some x.rules[j] := List.getElem?_eq_getElem hlt
          generalize x.rules[j] = X at hX
          obtain ⟨b, off, cs, Fk, hA, _, hbF, hFk, hcl, hcat, hR⟩ := SlR.get (RulR.good D) (Hs1.out _ (Hw.out _ hBr)) hX
          subst hA
          obtain ⟨c0, c1, c2, c3, c4, c5, rfl⟩ := list_6 hcl
          have HX := hide hX
          have HR := hide hR
          have Hbx := hide (HbR.out X (List.mem_of_getElem? hX))
          have Hss := hide (Hsh.out X (List.mem_of_getElem? hX))
          have Hc : Hid (CellsAt wr b (off + j * 6) [c0, c1, c2, c3, c4, c5]) := hide hcat
          have Hn : Hid ([c0, c1, c2, c3, c4, c5].length = 6) := hide rfl
          have hj0 : (0 : Int) ≤ (j : Int) := by omega
          have hj1 : (j : Int) < (x.rules.length : Int) := by omega
          clear hX hcat hFk hbF hcl hR
          go_wp2_with (refine wpList_load_at 32 (.tmp 37) rfl Tryz.underlying32 rfl hi6.out rfl rfl Hn.out Hc.out ?_)
          refine Calls.mono (s_FormatRule D X _ Fk wr HR.out Hbx.out) ?_
          rintro en w2 ⟨v2, G2, rfl, hs2, hf2, hb2⟩
          have hB2 : Below (w.heap.size + 1) W0 w2 := below_step hBr Hn0.out hb2
          obtain ⟨A2, k2, rfl, hc2, hm2⟩ := hs2.form
          have Hs2 := hide hs2
          clear hb2 hs2 hf2 hm2
          cases hv : validRul D X
          · have Hf : Hid (fmtGrm D x = ⟨#[]⟩) := hide (fmtGrm_rul HX.out hv)
            rw [fmtR_no hv]
            clear hv
            go_wp2_with fail
            go_ret
            exact ⟨ret_string Hf.out.symm, Hw.out _ hB2⟩
          · have hne := fmtR_yes hv
            have Hs := hide (all_step HX.out Hall.out hv)
            have hrl2 : (fmtR D X).length ≤ 1048576 := by
              exact one_len Hbk.out HX.out
            have Hln : Hid (nlT (linesG D x x.symbols.length (j + 1)) = nlT (linesG D x x.symbols.length j) ++ ⟨(joinL (fmtR D X) nlB).toArray⟩ ++ nlB) := hide (by rw [linesG_rul HX.out, nlT_append, bcat_assoc, join_nl hne])
            have hoz := Hsz.out x.symbols.length (j + 1)
            rw [Hln.out, ByteArray.size_append, ByteArray.size_append, show nlB.size = 1 from rfl] at hoz
            have hbs := bulkS_short Hss.out
            have hpos : 0 < (fmtR D X).length := List.length_pos_iff.2 hne
            clear hv hne
            generalize fmtR D X = l at hrl2 Hln hoz hbs hpos Hs2 hc2 ⊢
            generalize nlT (linesG D x x.symbols.length j) = o at Hln hoz ⊢
            have hl0 : ((l.length : Int) == 0) = false := by rw [beq_eq_false_iff_ne]; omega
            have hl1 : ¬ (l.length : Int) = 0 := by omega
            have hbb : bulkS l ≤ 1099511627776 := by omega
            go_wp2_with fail
            refine Calls.mono (s_Join D l _ _ w2 Hs2.out ⟨#[10]⟩ (by decide) hrl2 hbb) ?_
            rintro en w3 ⟨rfl, hb3⟩
            have HB3 := hide (below_step hB2 Hn0.out hb3)
            rw [HN.out] at Hln hoz
            clear hb3
            generalize (⟨(joinL l ⟨#[10]⟩).toArray⟩ : ByteArray) = T at Hln hoz ⊢
            have q0 : ¬ 9223372036854775807 < o.size + T.size := by omega
            have q1 : ¬ 9223372036854775807 < o.size + T.size + 1 := by omega
            go_wp2_with fail
            go_roundw
            case rel => exact ⟨j + 1, by omega, by go_num, by rw [Hln.out], Hs, HB3⟩
            case measure => simp [RowKit.intOf]; omega
        · have hjl : j = x.rules.length := by omega
          subst hjl
          have Hf : Hid (fmtGrm D x = nlT (linesG D x x.symbols.length x.rules.length)) := hide (fmtGrm_all HallS.out Hall.out)
          go_wp2_with fail
          go_ret
          exact ⟨ret_string Hf.out.symm, Hw.out _ hBr⟩
end Go.Proofs.YtjddmboaaebbiaaGreatDoor

/- A grammar as text: the program's. Conditions: the grammar has at most the size 2^20; the words of modes and types and the table of powers of ten are laid. -/
namespace Go.Proofs.YtjddmboaaebbiaaGreatDoor
set_option linter.unusedSimpArgs false
set_option linter.unusedVariables false
set_option maxRecDepth 100000
open Go.RowKit Go.WideShapes Go.Lib
set_option linter.unusedVariables false

/-- A row of texts appended to another, the first owned by the call. -/
theorem app_strs {P : Program} {ops : Array Oper} {rest : List Oper} {o : Oper} {a : Act} {Q : Exit → Act → World → Prop} (hgd : o.guard = none) (s x : Operand) (t : TypeId)
    (ho : o.op = .call { callee := .builtin .append, args := #[s, x], argTypes := #[t, t] }) (ht : P.underlying t = some (.slice 9)) {z : Value} {bytes : Nat}
    (hinfo : (P.info? 9).map (fun i => (i.zero, i.size, i.bytes)) = some (some z, 1, bytes)) (hzs : z.cells.size = 1) (W : World) (base : Nat) (v : Value) (xs ys : List ByteArray)
    (hown : SRow base W v xs) (hs : a.eval s = v) (D : Nat) (A : Option Addr) (n c : Nat) (F : List Nat) (hy : SlR 1 (StrR D) W ys (.slice A n c) F) (hl : ys.length = n) (hn0 : 0 < n) (hx : a.eval x = .slice A n c)
    (hn : xs.length + ys.length ≤ 1099511627776) (hby : (xs.length + ys.length) * bytes ≤ 140737488355328) (hbase : base ≤ W.heap.size)
    (h : ∀ v' w', SRow base w' v' (xs ++ ys) → Below base W w' → wpList P ops Q rest (a.put o.dst v') w') : wpList P ops Q (o :: rest) a W := by
  subst hl
  obtain ⟨i0, hi, hz0, hz1, hz2⟩ := info_parts hinfo
  obtain ⟨b, off, rfl, hb, hc⟩ := hy.strs.1.2 hn0
  refine wpList_append_own _ hgd s x t ho base 9 i0 z 1 bytes ht hi hz0 hz1 hz2 hzs (by decide) v xs.length _ hs hown ⟨b, off, none⟩ ys.length c (ys.map Value.string) hx (by simp) (fun j u hu => ?_) (fun u hu => by obtain ⟨k, _, rfl⟩ := List.mem_map.1 hu; rfl) (by unfold maxLen; omega) hby hbase ?_
  · have e1 : (⟨b, off, none⟩ : Addr).add j = ⟨b, off + j, none⟩ := by
      unfold Addr.add
      split
      · rename_i h0; subst h0; rfl
      · rfl
    rw [e1]
    exact hc j u hu
  · intro v' w' h2 h3 _
    have h4 : SRow base w' v' (xs ++ ys) := by
      unfold SRow
      rw [List.length_append, List.map_append]
      exact h2
    exact h v' w' h4 ((Below.refl base W).grown h3 hbase fun k hk => (hown.lt k hk).1)
theorem SRow.nil {B : Nat} {w : World} (hB : B ≤ w.heap.size) : SRow B (w.alloc (.cells #[] 9)) (.slice (some ⟨w.heap.size, 0, none⟩) 0 0) [] := World.ownsRow_made w #[] 0 hB (by simp [maxLen]) (by simp)
theorem SRow.form {B : Nat} {w : World} {v : Value} {xs : List ByteArray} (hr : SRow B w v xs) : ∃ A c, v = .slice A xs.length c := by
  obtain ⟨h1, h2⟩ := hr
  rcases h2 with ⟨rfl, h0⟩ | ⟨g, cap, cur, rfl, _⟩
  · exact ⟨none, 0, by rw [h0]⟩
  · exact ⟨_, _, rfl⟩
set_option maxRecDepth 100000 in
set_option maxHeartbeats 4000000 in
theorem i_FormatGrammar (D : Nat) (x : Grm) (cs : List Value) (F : List Nat) (w : World) (h : GrmR D w x cs F) (hbk : bulkGrm D x ≤ 1048576)
    (hM : WordsIs w 0 modeWs) (hT : WordsIs w 1 typeWs) (htab : TabIs Tryz.prog w "internal/strconv.uint64pow10" .u64 pow10Tab) :
    Calls Tryz.prog 17 #[.agg cs.toArray] w fun en w' => en = .returned (.string (fmtGrm D x)) ∧ Below w.heap.size w w' := by
  have HTb : Hid (∀ W : World, Below w.heap.size w W → TabIs Tryz.prog W "internal/strconv.uint64pow10" .u64 pow10Tab) := hide (tabBelow_of_tabIs htab)
  have HM : Hid (∀ W : World, Below w.heap.size w W → WordsIs W 0 modeWs) := hide fun W hW => hM.below (hM.lt (by decide)) hW
  have HT : Hid (∀ W : World, Below w.heap.size w W → WordsIs W 1 typeWs) := hide fun W hW => hT.below (hT.lt (by decide)) hW
  clear hM hT htab
  obtain ⟨p0, p1, rfl⟩ := list2 ((GrmR.good D).len h)
  obtain ⟨v0, F0, v1, F1, _, ⟨h0, g0⟩, ⟨h1, g1⟩, rfl⟩ := h
  obtain rfl := Option.some.inj h0
  obtain rfl := Option.some.inj h1
  obtain ⟨A0, k0, rfl, hc0, hm0⟩ := g0.form
  obtain ⟨A1, k1, rfl, hc1, hm1⟩ := g1.form
  unfold maxLen at hm0 hm1
  have L0 := hide (g0.lt (SymR.good D))
  have Hs0 : Hid (∀ W : World, Below w.heap.size w W → SlR 2 (SymR D) W x.symbols (.slice A0 x.symbols.length k0) F0) := hide fun W hW => g0.below (SymR.good D) hW L0.out
  have L1 := hide (g1.lt (RulR.good D))
  have Hs1 : Hid (∀ W : World, Below w.heap.size w W → SlR 6 (RulR D) W x.rules (.slice A1 x.rules.length k1) F1) := hide fun W hW => g1.below (RulR.good D) hW L1.out
  have Hsh : Hid (∀ r ∈ x.rules, ∀ y ∈ fmtR D r, y.size ≤ 20000) := hide fun r hr => by
    obtain ⟨q, hq⟩ := List.mem_iff_getElem?.1 hr
    obtain ⟨b, off, cs, Fk, hA, _, _, _, _, _, hR⟩ := SlR.get (RulR.good D) g1 hq
    exact fmtR_short hR
  have Hsz : Hid (∀ j k, (nlT (linesG D x j k)).size ≤ 21000000000) := hide fun j k => nlG_size hbk Hsh.out j k
  have HbS := hide (gq_syms hbk)
  have HbR := hide (gq_rules hbk)
  have Hbk := hide hbk
  have hll : x.symbols.length ≤ 9223372036854775807 := by omega
  have hrl : x.rules.length ≤ 9223372036854775807 := by omega
  have hi2 : Hid ((Tryz.prog.info? 78).map (·.size) = some 2) := hide (by kernel_rfl)
  have hi6 : Hid ((Tryz.prog.info? 32).map (·.size) = some 6) := hide (by kernel_rfl)
  obtain ⟨C0, hz0, hw0⟩ := boxes1 w [.slice A0 x.symbols.length k0, .slice A1 x.rules.length k1] 48
  show Calls _ _ #[.agg #[.slice A0 x.symbols.length k0, .slice A1 x.rules.length k1]] w _
  clear g0 g1 h0 h1 hc0 hc1 hm0 hm1 hbk
  have hpk : 0 = 0 := rfl
  go_enter Tryz.func17, Tryz.ntmps17
  go_wp2_with fail
  generalize w.alloc (Obj.cells #[.slice A0 x.symbols.length k0, .slice A1 x.rules.length k1] 48) = W0 at C0 hz0 hw0 ⊢
  have hn0 : w.heap.size + 1 ≤ W0.heap.size := by omega
  have Hn0 := hide hn0
  have Hw : Hid (∀ W : World, Below (w.heap.size + 1) W0 W → Below w.heap.size w W) := hide fun W h => hw0.trans (h.mono (by omega))
  have hB0 : Below (w.heap.size + 1) W0 W0 := Below.refl _ _
  have e0 := cell_rule C0 (n := w.heap.size + 1) (by omega) 0 rfl
  have e1 := cell_rule C0 (n := w.heap.size + 1) (by omega) 1 rfl
  clear C0 hw0
  have hA0 : ∀ (W : World) (o : Obj), Below (w.heap.size + 1) W0 W → Below (w.heap.size + 1) W0 (W.alloc o) := fun _ o h => below_alloc Hn0.out o h
  have Hro : Hid (SRow (w.heap.size + 1) (W0.alloc (.cells #[] 9)) (.slice (some ⟨W0.heap.size, 0, none⟩) 0 0) (linesG D x 0 0)) := hide (show SRow _ _ _ [] from SRow.nil hn0)
  have HBa := hide (hA0 _ (.cells #[] 9) hB0)
  have Hall0 : Hid (∀ j k, (linesG D x j k).length ≤ 1048576) := hide fun j k => linesG_len Hbk.out j k
  rw [hz0] at Hro
  go_wp2_with fail
  generalize W0.alloc (.cells #[] 9) = V0 at Hro HBa ⊢
  go_loopw [3, 14] (fun o i wr => ∃ j : Nat, j ≤ x.symbols.length ∧ i = .int .i64 j ∧ Hid (SRow (w.heap.size + 1) wr o (linesG D x j 0)) ∧ Hid ((x.symbols.take j).all validY = true) ∧ Hid (Below (w.heap.size + 1) W0 wr)) (fun _ i _ => x.symbols.length - (RowKit.intOf i).toNat)
  case atStart => exact ⟨0, by omega, rfl, Hro, hide rfl, HBa⟩
  case round =>
    obtain ⟨j, hj, rfl, Hrow, Hall, Hb⟩ := hrel
    have hBr := Hb.out
    by_cases hlt : j < x.symbols.length
    · have hX : x.symbols[j]? = some x.symbols[j] := List.getElem?_eq_getElem hlt
      generalize x.symbols[j] = X at hX
      obtain ⟨b, off, cs, Fk, hA, _, hbF, hFk, hcl, hcat, hR⟩ := SlR.get (SymR.good D) (Hs0.out _ (Hw.out _ hBr)) hX
      subst hA
      have H1 := hide (SymR.one hR)
      have HRl := hide ((SymR.good D).lt hR)
      obtain ⟨c0, c1, rfl⟩ := list2 hcl
      have HX := hide hX
      have HR := hide hR
      have Hbx := hide (gq_attrs (HbS.out X (List.mem_of_getElem? hX)))
      have Hc : Hid (CellsAt wr b (off + j * 2) [c0, c1]) := hide hcat
      have Hn : Hid ([c0, c1].length = 2) := hide rfl
      have hj0 : (0 : Int) ≤ (j : Int) := by omega
      have hj1 : (j : Int) < (x.symbols.length : Int) := by omega
      clear hX hcat hFk hbF hcl hR
      go_wp2_with (first
        | refine wpList_load_at 78 (.tmp 16) rfl Tryz.underlying78 rfl hi2.out rfl rfl Hn.out Hc.out ?_
        | (refine wpList_store_new 78 (.tmp 5) (.tmp 17) rfl hi2.out rfl rfl rfl rfl Hn.out H1.out rfl ?_; refine hold ?_))
      have C := CellsAt.new wr [c0, c1] 78
      have hza := World.size_alloc wr (Obj.cells #[c0, c1] 78)
      have hwr : Below wr.heap.size wr (wr.alloc (Obj.cells #[c0, c1] 78)) := (Below.refl _ _).alloc (Nat.le_refl _) _
      generalize wr.alloc (Obj.cells #[c0, c1] 78) = V1 at C hza hwr ⊢
      have Hrow1 := hide (Hrow.out.below hwr)
      have hwv : Below (w.heap.size + 1) W0 V1 := below_step hBr Hn0.out hwr
      have ex0 := cell_rule C (n := V1.heap.size) (by omega) 0 (v := c0) rfl
      have ex1 := cell_rule C (n := V1.heap.size) (by omega) 1 (v := c1) rfl
      have hVV : Below V1.heap.size V1 V1 := Below.refl _ _
      have HR1 := hide ((SymR.good D).below HR.out hwr HRl.out)
      clear C hza hwr
      refine Hold.go ?_
      go_wp2_with fail
      refine Calls.mono (i_FormatSymbol D X _ Fk V1 HR1.out Hbx.out (HM.out _ (Hw.out _ hwv)) (HT.out _ (Hw.out _ hwv))) ?_
      rintro en w2 ⟨rfl, hb2⟩
      have Hrow2 := hide (Hrow1.out.below hb2)
      have hB2 : Below (w.heap.size + 1) W0 w2 := below_step hwv Hn0.out hb2
      clear hb2 ex0 ex1 hVV
      cases hv : validY X
      · have Hf : Hid (fmtGrm D x = ⟨#[]⟩) := hide (fmtGrm_sym HX.out hv)
        rw [fmtSym_no hv]
        clear hv
        go_wp2_with fail
        go_ret
        exact ⟨ret_string Hf.out.symm, Hw.out _ hB2⟩
      · have hy := fmtSym_yes hv
        have hz := fmtSym_short X
        have Hs := hide (all_step HX.out Hall.out hv)
        have Hln : Hid (linesG D x (j + 1) 0 = linesG D x j 0 ++ [fmtSym X]) := hide (linesG_sym HX.out)
        have hlen := Hall0.out j 0
        clear hv
        generalize fmtSym X = T at hy hz Hln ⊢
        have hne : (T.toList == []) = false := by
          rw [Lib.toList_data]
          cases hd : T.data.toList with
          | nil =>
            have : T.size = 0 := by show T.data.size = 0; rw [← Array.length_toList, hd]; rfl
            omega
          | cons a r => rfl
        have HTs : Hid (T.size ≤ maxLen) := hide (by unfold maxLen; omega)
        have Hbz : Hid (w.heap.size + 1 ≤ w2.heap.size) := hide (Nat.le_trans Hn0.out hB2.size)
        have HB2 := hide hB2
        have HO2 : Hid (OwnS 1 (StrR D) (w.heap.size + 1) 9 w2 (linesG D x j 0) _ []) := hide (SRow.own Hrow2.out (linesG_max Hsh.out j 0))
        go_wp2_with (at_builtin; refine app_ownS rfl (.tmp 22) (.tmp 24) 22 9 rfl Tryz.underlying22 infoStrR rfl (by decide) (StrR.good D) w2 w2 (w.heap.size + 1) _ (linesG D x j 0) [] HO2.out rfl (Below.refl _ _) T [.string T] [] ⟨rfl, HTs.out, rfl⟩ (Fresh.nil _ _) (by simp [Value.oneCell']) rfl (by omega) (by omega) Hbz.out ?_; intro v1 w3 hown hbl; have Hown := hide (SRow.ofOwn hown); have Hbl := hide (HB2.out.trans hbl); clear hown hbl)
        go_wp2_with fail
        go_roundw
        case rel => exact ⟨j + 1, by omega, by go_num, hide (by rw [Hln.out]; exact Hown.out), Hs, Hbl⟩
        case measure => simp [RowKit.intOf]; omega
    · have hjl : j = x.symbols.length := by omega
      subst hjl
      have HallS := hide Hall.out
      obtain ⟨W1, hW1⟩ : ∃ W, W = wr := ⟨_, rfl⟩
      subst hW1
      clear Hro HBa
      go_wp2_with fail
      go_loopw [3, 30] (fun o i wr => ∃ j : Nat, j ≤ x.rules.length ∧ i = .int .i64 j ∧ Hid (SRow (w.heap.size + 1) wr o (linesG D x x.symbols.length j)) ∧ Hid ((x.rules.take j).all (validRul D) = true) ∧ Hid (Below (w.heap.size + 1) W0 wr)) (fun _ i _ => x.rules.length - (RowKit.intOf i).toNat)
      case atStart => exact ⟨0, by omega, rfl, Hrow, hide rfl, Hb⟩
      case round =>
        obtain ⟨j, hj, rfl, Hrow, Hall, Hb⟩ := hrel
        have hBr := Hb.out
        by_cases hlt : j < x.rules.length
        · have hX : x.rules[j]? = some x.rules[j] := List.getElem?_eq_getElem hlt
          generalize x.rules[j] = X at hX
          obtain ⟨b, off, cs, Fk, hA, _, hbF, hFk, hcl, hcat, hR⟩ := SlR.get (RulR.good D) (Hs1.out _ (Hw.out _ hBr)) hX
          subst hA
          have H1 := hide (RulR.one hR)
          have HRl := hide ((RulR.good D).lt hR)
          obtain ⟨c0, c1, c2, c3, c4, c5, rfl⟩ := list_6 hcl
          have HX := hide hX
          have HR := hide hR
          have Hbx := hide (HbR.out X (List.mem_of_getElem? hX))
          have Hc : Hid (CellsAt wr b (off + j * 6) [c0, c1, c2, c3, c4, c5]) := hide hcat
          have Hn : Hid ([c0, c1, c2, c3, c4, c5].length = 6) := hide rfl
          have hj0 : (0 : Int) ≤ (j : Int) := by omega
          have hj1 : (j : Int) < (x.rules.length : Int) := by omega
          clear hX hcat hFk hbF hcl hR
          go_wp2_with (first
            | refine wpList_load_at 32 (.tmp 32) rfl Tryz.underlying32 rfl hi6.out rfl rfl Hn.out Hc.out ?_
            | (refine wpList_store_new 32 (.tmp 8) (.tmp 33) rfl hi6.out rfl rfl rfl rfl Hn.out H1.out rfl ?_; refine hold ?_))
          have C := CellsAt.new wr [c0, c1, c2, c3, c4, c5] 32
          have hza := World.size_alloc wr (Obj.cells #[c0, c1, c2, c3, c4, c5] 32)
          have hwr : Below wr.heap.size wr (wr.alloc (Obj.cells #[c0, c1, c2, c3, c4, c5] 32)) := (Below.refl _ _).alloc (Nat.le_refl _) _
          generalize wr.alloc (Obj.cells #[c0, c1, c2, c3, c4, c5] 32) = V1 at C hza hwr ⊢
          have Hrow1 := hide (Hrow.out.below hwr)
          have hwv : Below (w.heap.size + 1) W0 V1 := below_step hBr Hn0.out hwr
          have ex0 := cell_rule C (n := V1.heap.size) (by omega) 0 (v := c0) rfl
          have ex1 := cell_rule C (n := V1.heap.size) (by omega) 1 (v := c1) rfl
          have ex2 := cell_rule C (n := V1.heap.size) (by omega) 2 (v := c2) rfl
          have ex3 := cell_rule C (n := V1.heap.size) (by omega) 3 (v := c3) rfl
          have ex4 := cell_rule C (n := V1.heap.size) (by omega) 4 (v := c4) rfl
          have ex5 := cell_rule C (n := V1.heap.size) (by omega) 5 (v := c5) rfl
          have hVV : Below V1.heap.size V1 V1 := Below.refl _ _
          have HR1 := hide ((RulR.good D).below HR.out hwr HRl.out)
          clear C hza hwr
          refine Hold.go ?_
          go_wp2_with fail
          refine Calls.mono (i_FormatRule D X _ Fk V1 HR1.out Hbx.out (HTb.out _ (Hw.out _ hwv))) ?_
          rintro en w2 ⟨v2, G2, rfl, hs2, hf2, hb2⟩
          have Hrow2 := hide (Hrow1.out.below hb2)
          have hB2 : Below (w.heap.size + 1) W0 w2 := below_step hwv Hn0.out hb2
          obtain ⟨A2, k2, rfl, hc2, hm2⟩ := hs2.form
          have Hs2 := hide hs2
          clear hb2 hs2 hf2 hm2 ex0 ex1 ex2 ex3 ex4 ex5 hVV
          cases hv : validRul D X
          · have Hf : Hid (fmtGrm D x = ⟨#[]⟩) := hide (fmtGrm_rul HX.out hv)
            rw [fmtR_no hv]
            clear hv
            go_wp2_with fail
            go_ret
            exact ⟨ret_string Hf.out.symm, Hw.out _ hB2⟩
          · have hne := fmtR_yes hv
            have Hs := hide (all_step HX.out Hall.out hv)
            have hrl2 := one_len Hbk.out HX.out
            have Hln : Hid (linesG D x x.symbols.length (j + 1) = linesG D x x.symbols.length j ++ fmtR D X) := hide (linesG_rul HX.out)
            have hlen := Hall0.out x.symbols.length j
            have hpos : 0 < (fmtR D X).length := List.length_pos_iff.2 hne
            clear hv hne
            generalize fmtR D X = l at hrl2 Hln hpos Hs2 hc2 ⊢
            have hl0 : ((l.length : Int) == 0) = false := by rw [beq_eq_false_iff_ne]; omega
            have hl1 : ¬ (l.length : Int) = 0 := by omega
            have Hbz : Hid (w.heap.size + 1 ≤ w2.heap.size) := hide (Nat.le_trans Hn0.out hB2.size)
            have HB2 := hide hB2
            go_wp2_with (at_builtin; refine app_strs rfl (.tmp 39) (.tmp 40) 22 rfl Tryz.underlying22 infoStrR rfl w2 (w.heap.size + 1) _ (linesG D x x.symbols.length j) l Hrow2.out rfl D A2 l.length k2 G2 Hs2.out rfl hpos rfl (by omega) (by omega) Hbz.out ?_; intro v1 w3 hown hbl; have Hown := hide hown; have Hbl := hide (HB2.out.trans hbl); clear hown hbl)
            go_wp2_with fail
            go_roundw
            case rel => exact ⟨j + 1, by omega, by go_num, hide (by rw [Hln.out]; exact Hown.out), Hs, Hbl⟩
            case measure => simp [RowKit.intOf]; omega
        · have hjl : j = x.rules.length := by omega
          subst hjl
          have Hf : Hid (fmtGrm D x = nlT (linesG D x x.symbols.length x.rules.length)) := hide (fmtGrm_all HallS.out Hall.out)
          have hlen := Hall0.out x.symbols.length x.rules.length
          have hbs := bulkS_short (linesG_short Hsh.out x.symbols.length x.rules.length)
          have hnz := Hsz.out x.symbols.length x.rules.length
          have Hmx := hide (linesG_max Hsh.out x.symbols.length x.rules.length)
          generalize linesG D x x.symbols.length x.rules.length = l at Hf hlen hbs hnz Hmx Hrow
          obtain ⟨A3, k3, rfl⟩ := SRow.form Hrow.out
          by_cases hl : l = []
          · subst hl
            go_wp2_with fail
            go_ret
            exact ⟨ret_string (by rw [Hf.out]; rfl), Hw.out _ hBr⟩
          · have hpos : 0 < l.length := List.length_pos_iff.2 hl
            have hl0 : ((l.length : Int) == 0) = false := by rw [beq_eq_false_iff_ne]; omega
            have hl1 : ¬ (l.length : Int) = 0 := by omega
            have hbb : bulkS l ≤ 1099511627776 := by omega
            obtain ⟨G3, hs3, _⟩ := Hrow.out.slr (D := D) Hmx.out
            have Hs3 := hide hs3
            have HJ : Hid (⟨(joinL l ⟨#[10]⟩).toArray⟩ ++ (⟨#[10]⟩ : ByteArray) = nlT l) := hide (join_nl hl)
            have hjz : (⟨(joinL l ⟨#[10]⟩).toArray⟩ : ByteArray).size + 1 ≤ 21000000000 := by
              have h1 := congrArg ByteArray.size HJ.out
              rw [ByteArray.size_append] at h1
              have h2 : (⟨#[10]⟩ : ByteArray).size = 1 := rfl
              omega
            clear hs3 hl
            go_wp2_with fail
            refine Calls.mono (i_Join D l _ _ wr Hs3.out ⟨#[10]⟩ (by decide) hlen hbb) ?_
            rintro en w3 ⟨rfl, hb3⟩
            have HB3 := hide (below_step hBr Hn0.out hb3)
            clear hb3
            generalize (⟨(joinL l ⟨#[10]⟩).toArray⟩ : ByteArray) = T at HJ hjz ⊢
            have q0 : ¬ 9223372036854775807 < T.size + 1 := by omega
            go_wp2_with fail
            go_ret
            exact ⟨ret_string (by rw [Hf.out, ← HJ.out]), Hw.out _ HB3.out⟩
end Go.Proofs.YtjddmboaaebbiaaGreatDoor
