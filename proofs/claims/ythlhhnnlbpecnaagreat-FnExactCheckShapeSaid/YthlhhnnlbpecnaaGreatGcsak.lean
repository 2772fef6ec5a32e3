/- Several texts of one proof in one file: Expressions copied into new memory: both sides. Symbols sought in a grammar and copied: both sides. The attribute of an occurrence; may an equation use it: both sides. May an equation use an occurrence: the program's. Conditions: each theorem names its own. -/
import Derived.Test.YthlhhnnlbpecnaaGreatGcsad
import Derived.Test.YthlhhnnlbpecnaaGreatGcsaj
import Derived.Test.YthlhhnnlbpecnaaGreatGcsah
import Derived.Deep.RegionHeld3
import Derived.Sort.AtCall

/- Expressions copied into new memory: both sides. Conditions: at most 2^20 arguments a node. -/
namespace Go.Proofs.YthlhhnnlbpecnaaGreat
set_option linter.unusedSimpArgs false
set_option linter.unusedVariables false
set_option maxRecDepth 100000
open Go.RowKit Go.WideShapes
set_option linter.unusedVariables false

theorem infoEx : (Tryz.prog.info? 86).map (fun i => (i.zero, i.size, i.bytes)) = some (some (.agg #[.int .i64 0, .int .i64 0, .int .i64 0, .int .i64 0, .string ByteArray.empty, .string ByteArray.empty, .slice none 0 0]), 7, 88) := by kernel_rfl
theorem far2 {w W1 WF : World} {b0 b1 o0 o1 B : Nat} {vs us : List Value} {c0 c1 : Array Value} {t0 t1 : TypeId} (h0 : Put w b0 o0 vs c0 t0 W1) (h1 : Put W1 b1 o1 us c1 t1 WF) (hb0 : b0 < B) (hb1 : b1 < B) {G : List Nat} (hG : ∀ k ∈ G, B ≤ k) : ∀ k ∈ G, WF.heap[k]? = w.heap[k]? := fun k hk => by
  have := hG k hk
  rw [h1.far k (by omega), h0.far k (by omega)]
def CpE_s (d : Nat) : Prop := ∀ (e : Ex) (cs : List Value) (F : List Nat) (w : World), ExR d w e cs F → slim d e →
  Calls Tryz.prog 107 #[.agg cs.toArray] w fun en w' => ∃ us F', en = .returned (.agg (List.toArray us)) ∧ ExR d w' e us F' ∧ Fresh w.heap.size w' F' ∧ Below w.heap.size w w'
set_option maxRecDepth 100000 in
set_option maxHeartbeats 2000000 in
theorem s_l4Copy_step {d : Nat} (hE : CpE_s d) : CpE_s (d + 1) := fun e cs F w h hslim => by
  obtain ⟨A, cap, rfl, hok, hl, hm, hs⟩ := ex_form h
  have HF := hide (hs.lt (ExR.good d))
  obtain ⟨⟨k, n, p, t, s, m⟩, l⟩ := e
  simp only [Ex.args] at hs hl HF
  have hsl1 : l.length ≤ 1048576 := hslim.1
  have Hsl2 : Hid (∀ x ∈ l, slim d x) := hide hslim.2
  have hlm : l.length ≤ 9223372036854775807 := by omega
  have Hs := hide hs
  have HE := hide hE
  have Hok := hide hok
  have hi : (Tryz.prog.info? 86).map (·.size) = some 7 := by kernel_rfl
  have hi1 : (Tryz.prog.info? 84).map (·.size) = some 1 := by kernel_rfl
  have Hi := hide hi
  have Hi1 := hide hi1
  obtain ⟨C0, hR0, hz0, hw0⟩ := boxR w [.int .i64 k, .int .i64 n, .int .i64 p, .int .i64 t, .string s, .string m, .slice A l.length cap] [.int .i64 0, .int .i64 0, .int .i64 0, .int .i64 0, .string ⟨#[]⟩, .string ⟨#[]⟩, .slice none 0 0] 86 86
  have hB00 := heap_alloc_new w (.cells #[.int .i64 k, .int .i64 n, .int .i64 p, .int .i64 t, .string s, .string m, .slice A l.length cap] 86)
  have hBx := (((Below.refl (w.heap.size + 1) (w.alloc (.cells #[.int .i64 k, .int .i64 n, .int .i64 p, .int .i64 t, .string s, .string m, .slice A l.length cap] 86))).alloc (by simp) (.cells #[.int .i64 0, .int .i64 0, .int .i64 0, .int .i64 0, .string ⟨#[]⟩, .string ⟨#[]⟩, .slice none 0 0] 86)).block w.heap.size (by omega)).trans hB00
  show Calls _ _ #[.agg #[.int .i64 k, .int .i64 n, .int .i64 p, .int .i64 t, .string s, .string m, .slice A l.length cap]] w _
  clear hs h hok hslim hE hi hi1 hm hB00
  go_enter Tryz.func107, Tryz.ntmps107
  go_wp2_with fail
  generalize (w.alloc (Obj.cells #[.int .i64 k, .int .i64 n, .int .i64 p, .int .i64 t, .string s, .string m, .slice A l.length cap] 86)).alloc (Obj.cells #[.int .i64 0, .int .i64 0, .int .i64 0, .int .i64 0, .string ⟨#[]⟩, .string ⟨#[]⟩, .slice none 0 0] 86) = W0 at C0 hR0 hz0 hw0 hBx ⊢
  have hn0 : w.heap.size + 2 ≤ W0.heap.size := by omega
  have Hw : Hid (∀ W : World, Below (w.heap.size + 2) W0 W → Below w.heap.size w W) := hide fun W h => hw0.trans (h.mono (by omega))
  have hB0 : Below (w.heap.size + 2) W0 W0 := Below.refl _ _
  have e6 := cell_rule C0 (n := w.heap.size + 2) (by omega) 6 rfl
  have HC0 : Hid (∀ W : World, Below (w.heap.size + 2) W0 W → CellsAt W w.heap.size 0 [.int .i64 k, .int .i64 n, .int .i64 p, .int .i64 t, .string s, .string m, .slice A l.length cap]) := hide fun W h => C0.below h (by omega)
  have HR0 : Hid (∀ W : World, Below (w.heap.size + 2) W0 W → W.heap[w.heap.size + 1]? = some (.cells #[.int .i64 0, .int .i64 0, .int .i64 0, .int .i64 0, .string ⟨#[]⟩, .string ⟨#[]⟩, .slice none 0 0] 86 (0, 0))) := hide fun W h => blk_below hR0 h (by omega)
  have HBx : Hid (∀ W : World, Below (w.heap.size + 2) W0 W → W.heap[w.heap.size]? = some (.cells #[.int .i64 k, .int .i64 n, .int .i64 p, .int .i64 t, .string s, .string m, .slice A l.length cap] 86 (0, 0))) := hide fun W h => blk_below hBx h (by omega)
  have Hz0 := hide hz0
  clear C0 hz0 hw0 hR0 hBx
  go_wp2_with fail
  go_loopw [3, 4] (fun o i wr => ∃ (j : Nat) (F' : List Nat), j ≤ l.length ∧ i = .int .i64 j ∧ Hid (OwnS 7 (ExR d) (w.heap.size + 2) 86 wr (l.take j) o F') ∧ Hid (Below (w.heap.size + 2) W0 wr)) (fun _ i _ => l.length - (intOf i).toNat)
  case atStart => exact ⟨0, [], by omega, rfl, hide (show OwnS 7 (ExR d) _ _ _ [] _ [] from by have h := OwnS.made (n := 7) (R := ExR d) (e := 86) W0 hn0; rw [Hz0.out] at h; exact h), hide (hB0.alloc hn0 _)⟩
  case round =>
    obtain ⟨j, F', hj, rfl, Ho, Hb⟩ := hrel
    have hBr := Hb.out
    by_cases hlt : j < l.length
    · have hX : l[j]? = some l[j] := List.getElem?_eq_getElem hlt
      generalize l[j] = X at hX
      obtain ⟨b, off, cs, Fk, hA, _, hbF, hFk, hcl, hcat, hR⟩ := SlR.get (ExR.good d) Hs.out hX
      subst hA
      have H1 := hide (ExR.one hR)
      obtain ⟨c0, c1, c2, c3, c4, c5, c6, rfl⟩ := list7 hcl
      have HX := hide hX
      have HlF : Hid (∀ k ∈ Fk, k < w.heap.size) := hide fun k hk => HF.out k (hFk k hk)
      have hlb : b < w.heap.size := HF.out b hbF
      have Hc : Hid (CellsAt wr b (off + j * 7) [c0, c1, c2, c3, c4, c5, c6]) := hide (hcat.below (Hw.out wr hBr) hlb)
      have Hn : Hid ([c0, c1, c2, c3, c4, c5, c6].length = 7) := hide rfl
      have HRx : Hid (∀ W : World, Below w.heap.size w W → ExR d W X [c0, c1, c2, c3, c4, c5, c6] Fk) := hide fun W hW => (ExR.good d).below hR hW HlF.out
      have Hslx := hide (Hsl2.out X (List.mem_of_getElem? hX))
      have hj0 : (0 : Int) ≤ (j : Int) := by omega
      have hj1 : (j : Int) < (l.length : Int) := by omega
      have hbase : w.heap.size + 2 ≤ wr.heap.size := Nat.le_trans hn0 hBr.size
      have htl : (l.take j).length = j := by rw [List.length_take]; omega
      clear hX hcat hFk hbF hcl hR
      have Hwr : Hid (Below wr.heap.size wr wr) := hide (Below.refl _ _)
      have hwv := hBr
      go_wp2_with (refine wpList_load_at 86 (.tmp 17) rfl Tryz.underlying86 rfl Hi.out rfl rfl Hn.out Hc.out ?_)
      refine Calls.mono (HE.out X _ Fk wr (HRx.out wr (Hw.out wr hwv)) Hslx.out) ?_
      rintro en w2 ⟨us, F2, rfl, hR2, hf2, hb2⟩
      have H12 := hide (ExR.one hR2)
      obtain ⟨u0, u1, u2, u3, u4, u5, u6, rfl⟩ := list7 ((ExR.good d).len hR2)
      have Hb2 : Hid (Below wr.heap.size wr w2) := hide (Hwr.out.trans (hb2.mono Hwr.out.size))
      have Hf2 : Hid (Fresh wr.heap.size w2 F2) := hide (hf2.mono Hwr.out.size)
      have HR2 := hide hR2
      clear hR2 hf2 hb2
      go_wp2_with (at_builtin; refine app_ownS rfl (.tmp 13) (.tmp 20) 84 86 rfl Tryz.underlying84 infoEx rfl (by decide) (ExR.good d) wr w2 (w.heap.size + 2) _ (l.take j) F' Ho.out rfl Hb2.out X [u0, u1, u2, u3, u4, u5, u6] F2 HR2.out Hf2.out H12.out rfl (by omega) (by omega) hbase ?_; intro v1 w1 hown hbl)
      have Hown := hide hown
      have Hbl := hide hbl
      clear hown hbl
      go_wp2_with fail
      go_roundw
      case rel => exact ⟨j + 1, F' ++ F2, by omega, by go_num, hide (by rw [take_snoc HX.out]; exact Hown.out), hide (Hb.out.trans Hbl.out)⟩
      case measure => simp [intOf]; omega
    · have hjl : j = l.length := by omega
      subst hjl
      have ho2 := Ho.out
      rw [List.take_length] at ho2
      have Ho2 := hide ho2
      clear ho2
      obtain ⟨A2, cap2, rfl, _, _⟩ := Ho2.out.form
      have HBr := hide (HBx.out wr hBr)
      have H1o : Hid (∀ v ∈ ([.slice A2 l.length cap2] : List Value), v.oneCell' = true) := hide (by simp [Value.oneCell'])
      go_wp2_with (refine wpList_store_any 84 (.tmp 23) (.tmp 22) rfl (cs := [.slice A2 l.length cap2]) rfl Hi1.out rfl rfl rfl rfl H1o.out HBr.out (by simp) ?_; intro W1 hP; have HP := hide hP; clear hP; refine hold ?_)
      have HCx : Hid (CellsAt W1 w.heap.size 0 [.int .i64 k, .int .i64 n, .int .i64 p, .int .i64 t, .string s, .string m, .slice A2 l.length cap2]) := hide fun q u hu => by
        have h6 := HP.out.cellsAt
        have h0 := HP.out.keeps HBr.out (o' := 0) (us := [.int .i64 k, .int .i64 n, .int .i64 p, .int .i64 t, .string s, .string m]) (fun q u hu => (HC0.out wr hBr) q u (by
          have := (List.getElem?_eq_some_iff.1 hu).1
          rcases q with _ | _ | _ | _ | _ | _ | q <;> first | exact hu | (simp at this; omega))) (.inl (by simp))
        rcases q with _ | _ | _ | _ | _ | _ | _ | q
        · exact h0 0 u hu
        · exact h0 1 u hu
        · exact h0 2 u hu
        · exact h0 3 u hu
        · exact h0 4 u hu
        · exact h0 5 u hu
        · exact h6 0 u hu
        · simp at hu
      have HZ : Hid (W1.heap[w.heap.size + 1]? = some (.cells #[.int .i64 0, .int .i64 0, .int .i64 0, .int .i64 0, .string ⟨#[]⟩, .string ⟨#[]⟩, .slice none 0 0] 86 (0, 0))) := hide ((HP.out.far _ (by omega)).trans (HR0.out wr hBr))
      have HnO : Hid (([.int .i64 k, .int .i64 n, .int .i64 p, .int .i64 t, .string s, .string m, .slice A2 l.length cap2] : List Value).length = 7) := hide rfl
      have H1O : Hid (∀ v ∈ ([.int .i64 k, .int .i64 n, .int .i64 p, .int .i64 t, .string s, .string m, .slice A2 l.length cap2] : List Value), v.oneCell' = true) := hide (by simp [Value.oneCell'])
      refine Hold.go ?_
      go_wp2_with (first
        | refine wpList_load_at 86 (.tmp 1) rfl Tryz.underlying86 rfl Hi.out rfl rfl HnO.out HCx.out ?_
        | (refine wpList_store_at 86 (.tmp 2) (.tmp 24) rfl Hi.out rfl rfl rfl HnO.out H1O.out HZ.out (by decide) ?_; intro WF hQ; have HQ := hide hQ; clear hQ))
      obtain ⟨G, hG, hGf⟩ := Ho2.out.slr (ExR.good d)
      have hfar := far2 HP.out HQ.out (show w.heap.size < w.heap.size + 2 by omega) (show w.heap.size + 1 < w.heap.size + 2 by omega) hGf.from_
      have hzz : wr.heap.size ≤ WF.heap.size := by rw [HQ.out.size, HP.out.size]; exact Nat.le_refl _
      have hW : Below w.heap.size w WF := ((Hw.out wr hBr).trans (HP.out.below (Nat.le_refl _))).trans (HQ.out.below (by omega))
      obtain ⟨x0, x1, x2, x3, x4, x5, x6⟩ := HQ.out.cellsAt.seven0
      exact bodyPost_ret (v := .agg #[.int .i64 k, .int .i64 n, .int .i64 p, .int .i64 t, .string s, .string m, .slice A2 l.length cap2]) (by simp [results, Tryz.results107, go_sem, x0, x1, x2, x3, x4, x5, x6]) rfl
        ⟨[.int .i64 k, .int .i64 n, .int .i64 p, .int .i64 t, .string s, .string m, .slice A2 l.length cap2], G, rfl, ⟨_, rfl, Hok.out, hG.frame (ExR.good d) hfar hzz⟩, (hGf.keep hfar).mono (by omega), hW⟩
theorem s_l4CopyD : ∀ d, CpE_s d
  | 0 => fun _ _ _ _ h _ => h.elim
  | d + 1 => s_l4Copy_step (s_l4CopyD d)
theorem s_l4Copy (D : Nat) (x : Ex) (cs : List Value) (F : List Nat) (w : World) (h : ExR D w x cs F) (hbk : bulkE D x ≤ 1048576) :
    Calls Tryz.prog 107 #[.agg cs.toArray] w fun en w' => ∃ us F', en = .returned (.agg (List.toArray us)) ∧ ExR D w' x us F' ∧ Fresh w.heap.size w' F' ∧ Below w.heap.size w w' := s_l4CopyD D x cs F w h (slim_of_bulk hbk)
end Go.Proofs.YthlhhnnlbpecnaaGreat

/- Symbols sought in a grammar and copied: both sides. Conditions: the grammar has at most the size 2^20. -/
namespace Go.Proofs.YthlhhnnlbpecnaaGreat
set_option linter.unusedSimpArgs false
set_option linter.unusedVariables false
set_option maxRecDepth 100000
open Go.RowKit Go.WideShapes
set_option linter.unusedVariables false
set_option maxRecDepth 100000 in
set_option maxHeartbeats 2000000 in
theorem s_FindSymbol (D : Nat) (x : Grm) (cs : List Value) (F : List Nat) (w : World) (h : GrmR D w x cs F) (s : ByteArray) (hbk : bulkGrm D x ≤ 1048576) :
    Calls Tryz.prog 69 #[.agg cs.toArray, .string s] w fun en w' => ∃ us F', en = .returned (.tuple #[.agg (List.toArray us), .bool (findS x.symbols s).isSome]) ∧ SymR D w' ((findS x.symbols s).getD Sym.zero) us F' ∧ Fresh w.heap.size w' F' ∧ Below w.heap.size w w' := by
  obtain ⟨p0, p1, rfl⟩ := list2 ((GrmR.good D).len h)
  obtain ⟨v0, F0, v1, F1, _, ⟨h0, g0⟩, ⟨h1, g1⟩, rfl⟩ := h
  obtain rfl := Option.some.inj h0
  obtain rfl := Option.some.inj h1
  obtain ⟨A0, k0, rfl, hc0, hm0⟩ := g0.form
  obtain ⟨A1, k1, rfl, hc1, hm1⟩ := g1.form
  unfold maxLen at hm0 hm1
  have L := hide (g0.lt (SymR.good D))
  have Hs := hide g0
  have Hbk := hide hbk
  have hll : x.symbols.length ≤ 9223372036854775807 := by omega
  have hi : (Tryz.prog.info? 42).map (·.size) = some 2 := by kernel_rfl
  have Hi := hide hi
  obtain ⟨C0, hR0, hz0, hw0⟩ := boxR w [.slice A0 x.symbols.length k0, .slice A1 x.rules.length k1] [.string ⟨#[]⟩, .slice none 0 0] 32 42
  show Calls _ _ #[.agg #[.slice A0 x.symbols.length k0, .slice A1 x.rules.length k1], .string s] w _
  clear g0 g1 h0 h1 hc0 hc1 hm0 hm1 hi hbk
  go_enter Tryz.func69, Tryz.ntmps69
  go_wp2_with fail
  generalize (w.alloc (Obj.cells #[.slice A0 x.symbols.length k0, .slice A1 x.rules.length k1] 32)).alloc (Obj.cells #[.string ⟨#[]⟩, .slice none 0 0] 42) = W0 at C0 hR0 hz0 hw0 ⊢
  have hn0 : w.heap.size + 2 ≤ W0.heap.size := by omega
  have Hw : Hid (∀ W : World, Below (w.heap.size + 2) W0 W → Below w.heap.size w W) := hide fun W h => hw0.trans (h.mono (by omega))
  have hB0 : Below (w.heap.size + 2) W0 W0 := Below.refl _ _
  have e0 := cell_rule C0 (n := w.heap.size + 2) (by omega) 0 rfl
  have e1 := cell_rule C0 (n := w.heap.size + 2) (by omega) 1 rfl
  have HR0 : Hid (∀ W : World, Below (w.heap.size + 2) W0 W → W.heap[w.heap.size + 1]? = some (.cells #[.string ⟨#[]⟩, .slice none 0 0] 42 (0, 0))) := hide fun W h => blk_below hR0 h (by omega)
  clear C0 hz0 hw0 hR0
  go_wp2_with fail
  go_loopw [6] (fun i wr => ∃ j : Nat, j ≤ x.symbols.length ∧ i = .int .i64 j ∧ Hid (∀ (k : Nat) (y : Sym), k < j → x.symbols[k]? = some y → (y.name.toList == s.toList) = false) ∧ Hid (Below (w.heap.size + 2) W0 wr)) (fun i _ => x.symbols.length - (intOf i).toNat)
  case atStart => exact ⟨0, by omega, rfl, hide (fun k y hk => absurd hk (by omega)), hide hB0⟩
  case round =>
    obtain ⟨j, hj, rfl, Hno, Hb⟩ := hrel
    have hBr := Hb.out
    by_cases hlt : j < x.symbols.length
    · have hX : x.symbols[j]? = some x.symbols[j] := List.getElem?_eq_getElem hlt
      generalize x.symbols[j] = X at hX
      obtain ⟨b, off, cs, Fk, hA, _, hbF, hFk, hcl, hcat, hR⟩ := SlR.get (SymR.good D) Hs.out hX
      subst hA
      have hRk := hR
      obtain ⟨c0, c1, rfl⟩ := list2 hcl
      have hc0 : c0 = .string X.name := Option.some.inj (by simpa using SymR.name hR)
      subst hc0
      have HX := hide hX
      have Hbx := hide (bulk_syms Hbk.out X (List.mem_of_getElem? hX))
      have HlF : Hid (∀ k ∈ Fk, k < w.heap.size) := hide fun k hk => L.out k (hFk k hk)
      have HR : Hid (SymR D wr X [.string X.name, c1] Fk) := hide ((SymR.good D).below hRk (Hw.out wr hBr) HlF.out)
      have hlb : b < w.heap.size := L.out b hbF
      have hcw := hcat.below (Hw.out wr hBr) hlb
      have p0 : wr.cell? ⟨b, off + j * 2, none⟩ = some (.string X.name) := hcw 0 _ rfl
      have Hc := hide hcw
      have Hn : Hid ([.string X.name, c1].length = 2) := hide rfl
      have hj0 : (0 : Int) ≤ (j : Int) := by omega
      have hj1 : (j : Int) < (x.symbols.length : Int) := by omega
      clear hX hcat hFk hbF hcl hR hRk hcw
      cases hq : (X.name.toList == s.toList)
      · have Hq := hide hq
        go_wp2_with fail
        go_roundw
        case rel =>
          refine ⟨j + 1, by omega, by go_num, hide fun k z hk hz => ?_, Hb⟩
          by_cases hkj : k < j
          · exact Hno.out k z hkj hz
          · obtain rfl : k = j := by omega
            have := HX.out
            rw [hz] at this
            obtain rfl := Option.some.inj this
            exact Hq.out
        case measure => simp [intOf]; omega
      · have Hf : Hid (findS x.symbols s = some X) := hide (find_hit Hno.out HX.out hq)
        go_wp2_with (refine wpList_load_at 42 (.tmp 25) rfl Tryz.underlying42 rfl Hi.out rfl rfl Hn.out Hc.out ?_)
        refine Calls.mono (s_l10Symbol D X _ Fk wr HR.out Hbx.out) ?_
        rintro en w2 ⟨us, F2, rfl, hR2, hf2, hb2⟩
        have H12 := hide (SymR.one hR2)
        obtain ⟨u0, u1, rfl⟩ := list2 ((SymR.good D).len hR2)
        have HR2 := hide hR2
        have Hf2 := hide hf2
        have Hb2 : Hid (Below (w.heap.size + 2) W0 w2) := hide (hBr.trans (hb2.mono (Nat.le_trans hn0 hBr.size)))
        have Hz2 := hide (Nat.le_trans hn0 hBr.size)
        have HZ := hide (HR0.out w2 Hb2.out)
        have Hn2 : Hid ([u0, u1].length = 2) := hide rfl
        clear hR2 hf2 hb2
        go_wp2_with (refine wpList_store_at 42 (.tmp 4) (.tmp 27) rfl Hi.out rfl rfl rfl Hn2.out H12.out HZ.out (by decide) ?_; intro WF hP; have HP := hide hP; clear hP)
        have hfar : ∀ k ∈ F2, WF.heap[k]? = w2.heap[k]? := fun k hk => HP.out.far k (by have := Hf2.out.from_ k hk; have := Hz2.out; omega)
        have hW : Below w.heap.size w WF := (Hw.out w2 Hb2.out).trans (HP.out.below (by omega))
        have hC := HP.out.cellsAt
        have x0 := hC 0 _ rfl; have x1 := hC 1 _ rfl
        simp only [Nat.zero_add, Nat.add_zero] at x0 x1
        exact bodyPost_ret (v := .tuple #[.agg #[u0, u1], .bool true]) (by simp [results, Tryz.results69, go_sem, x0, x1]) rfl
          ⟨[u0, u1], F2, by rw [Hf.out]; rfl, by rw [Hf.out]; exact (SymR.good D).frame HR2.out hfar (by rw [HP.out.size]; exact Nat.le_refl _), (Hf2.out.keep hfar).mono (by have := Hz2.out; omega), hW⟩
    · have Hf : Hid (findS x.symbols s = none) := hide (find_no fun k y hy => Hno.out k y (by have := (List.getElem?_eq_some_iff.1 hy).1; omega) hy)
      have HZ := hide (HR0.out wr hBr)
      have H1z : Hid (∀ v ∈ ([.string ⟨#[]⟩, .slice none 0 0] : List Value), v.oneCell' = true) := hide (SymR.one (SymR.zero D w))
      go_wp2_with (refine wpList_store_at 42 (.tmp 4) (.tmp 28) rfl Hi.out rfl rfl rfl rfl H1z.out HZ.out (by decide) ?_; intro WF hP; have HP := hide hP; clear hP)
      have hW : Below w.heap.size w WF := (Hw.out wr hBr).trans (HP.out.below (by omega))
      have hC := HP.out.cellsAt
      have x0 := hC 0 _ rfl; have x1 := hC 1 _ rfl
      simp only [Nat.zero_add, Nat.add_zero] at x0 x1
      exact bodyPost_ret (v := .tuple #[.agg #[.string ⟨#[]⟩, .slice none 0 0], .bool false]) (by simp [results, Tryz.results69, go_sem, x0, x1]) rfl
        ⟨[.string ⟨#[]⟩, .slice none 0 0], [], by rw [Hf.out]; rfl, by rw [Hf.out]; exact SymR.zero D _, Fresh.nil _ _, hW⟩
end Go.Proofs.YthlhhnnlbpecnaaGreat

/- The attribute of an occurrence; may an equation use it: both sides. Conditions: the grammar has at most the size 2^20. -/
namespace Go.Proofs.YthlhhnnlbpecnaaGreat
set_option linter.unusedSimpArgs false
set_option linter.unusedVariables false
set_option maxRecDepth 100000
open Go.RowKit Go.WideShapes
set_option linter.unusedVariables false

theorem zbox {X W : World} {z : Array Value} {T : TypeId} (hb : Below (X.alloc (.cells z T)).heap.size (X.alloc (.cells z T)) W) : W.heap[X.heap.size]? = some (.cells z T (0, 0)) ∧ X.heap.size < W.heap.size :=
  ⟨blk_below (heap_alloc_new X _) hb (by simp), by have := hb.size; simp at this; omega⟩
theorem zboxd {X W : World} {z : Array Value} {T : TypeId} (hb : Below (X.alloc (.cells z T)).drew.heap.size (X.alloc (.cells z T)).drew W) : W.heap[X.heap.size]? = some (.cells z T (0, 0)) ∧ X.heap.size < W.heap.size :=
  zbox (X := X) (((Below.refl _ (X.alloc (.cells z T))).drew).trans hb)
theorem zcarry {W W' : World} {b : Nat} {z : Array Value} {T : TypeId} (h : W.heap[b]? = some (.cells z T (0, 0)) ∧ b < W.heap.size) (hb : Below W.heap.size W W') : W'.heap[b]? = some (.cells z T (0, 0)) ∧ b < W'.heap.size :=
  ⟨blk_below h.1 hb h.2, Nat.lt_of_lt_of_le h.2 hb.size⟩
theorem cells_set2 {W : World} {b : Nat} {z0 z1 : Value} {T : TypeId} (h : W.heap[b]? = some (.cells #[z0, z1] T (0, 0))) (u v : Value) : CellsAt ((W.setCell ⟨b, 0, none⟩ u).setCell ⟨b, 1, none⟩ v) b 0 [u, v] := fun j t hj => by
  have k0 := cell_at (i := 0) h (by simp)
  have k1 := cell_at (i := 1) h (by simp)
  have m1 : ((W.setCell ⟨b, 0, none⟩ u).cell? ⟨b, 1, none⟩) = some z1 := (World.cell?_setCell_other W ⟨b, 0, none⟩ ⟨b, 1, none⟩ u (by simp)).trans k1
  match j, hj with
  | 0, hj =>
    obtain rfl := Option.some.inj hj
    exact (World.cell?_setCell_other _ ⟨b, 1, none⟩ ⟨b, 0, none⟩ v (by simp)).trans (World.cell?_setCell_same (h := k0) ..)
  | 1, hj =>
    obtain rfl := Option.some.inj hj
    exact World.cell?_setCell_same (h := m1) ..
/-- The attribute of an occurrence of a rule. -/
def attrAt (g : Grm) (x : Rul) (y : Occ) : Option Atr := if 0 ≤ y.pos ∧ y.pos ≤ x.right.length then findA ((findS g.symbols (symAt x y.pos)).getD Sym.zero).attrs y.name else none
theorem drew_heap (W : World) : W.drew.heap = W.heap := rfl
theorem sym_form {D : Nat} {w : World} {x : Sym} {cs : List Value} {F : List Nat} (h : SymR D w x cs F) : ∃ A cap, cs = [.string x.name, .slice A x.attrs.length cap] ∧ Hid (SymR D w x [.string x.name, .slice A x.attrs.length cap] F ∧ x.attrs.length ≤ cap ∧ cap ≤ maxLen) := by
  obtain ⟨u0, u1, rfl⟩ := list2 ((SymR.good D).len h)
  have hk := h
  obtain ⟨v1, F1, _, _, h0, ⟨h1, g1⟩, rfl⟩ := h
  obtain rfl := Option.some.inj h0
  obtain rfl := Option.some.inj h1
  obtain ⟨A, cap, rfl, hl, hm⟩ := g1.form
  exact ⟨A, cap, rfl, hide ⟨hk, hl, hm⟩⟩
theorem boxR3 (w : World) (a b c z : List Value) (ta tb tc tz : TypeId) :
    CellsAt ((((w.alloc (.cells a.toArray ta)).alloc (.cells b.toArray tb)).alloc (.cells c.toArray tc)).alloc (.cells z.toArray tz)) w.heap.size 0 a ∧ CellsAt ((((w.alloc (.cells a.toArray ta)).alloc (.cells b.toArray tb)).alloc (.cells c.toArray tc)).alloc (.cells z.toArray tz)) (w.heap.size + 1) 0 b ∧
      CellsAt ((((w.alloc (.cells a.toArray ta)).alloc (.cells b.toArray tb)).alloc (.cells c.toArray tc)).alloc (.cells z.toArray tz)) (w.heap.size + 2) 0 c ∧
      ((((w.alloc (.cells a.toArray ta)).alloc (.cells b.toArray tb)).alloc (.cells c.toArray tc)).alloc (.cells z.toArray tz)).heap[w.heap.size + 3]? = some (.cells z.toArray tz (0, 0)) ∧
      ((((w.alloc (.cells a.toArray ta)).alloc (.cells b.toArray tb)).alloc (.cells c.toArray tc)).alloc (.cells z.toArray tz)).heap.size = w.heap.size + 4 ∧ Below w.heap.size w ((((w.alloc (.cells a.toArray ta)).alloc (.cells b.toArray tb)).alloc (.cells c.toArray tc)).alloc (.cells z.toArray tz)) := by
  obtain ⟨h1, h2, h3, h4, h5⟩ := boxes3 w a b c ta tb tc
  have h6 := heap_alloc_new (((w.alloc (.cells a.toArray ta)).alloc (.cells b.toArray tb)).alloc (.cells c.toArray tc)) (.cells z.toArray tz)
  generalize ((w.alloc (.cells a.toArray ta)).alloc (.cells b.toArray tb)).alloc (.cells c.toArray tc) = V at *
  have hb : Below V.heap.size V (V.alloc (.cells z.toArray tz)) := (Below.refl _ _).alloc (Nat.le_refl _) _
  rw [h4] at h6
  exact ⟨h1.below hb (by omega), h2.below hb (by omega), h3.below hb (by omega), h6, by rw [World.size_alloc, h4], h5.trans (hb.mono h5.size)⟩
set_option maxRecDepth 100000 in
set_option maxHeartbeats 4000000 in
theorem i_attributeAt (D : Nat) (g : Grm) (x : Rul) (y : Occ) (cg cr co : List Value) (Fg Fr Fo : List Nat) (w : World) (hg : GrmR D w g cg Fg) (hr : RulR D w x cr Fr) (ho : OccR D w y co Fo) :
    Calls Tryz.prog 94 #[.agg cg.toArray, .agg cr.toArray, .agg co.toArray] w (Found D w (attrAt g x y)) := by
  have LG := hide ((GrmR.good D).lt hg)
  have LR := hide ((RulR.good D).lt hr)
  obtain ⟨p0, p1, rfl⟩ := list2 ((GrmR.good D).len hg)
  obtain ⟨r0, r1, r2, r3, r4, r5, rfl⟩ := list_6 ((RulR.good D).len hr)
  obtain ⟨q0, q1, rfl⟩ := list2 ((OccR.good D).len ho)
  obtain ⟨_, hok, o0, o1, rfl⟩ := ho
  obtain rfl := Option.some.inj o0
  obtain rfl := Option.some.inj o1
  have Hg : Hid (∀ W : World, Below w.heap.size w W → GrmR D W g [p0, p1] Fg) := hide fun W hW => (GrmR.good D).below hg hW LG.out
  have Hr : Hid (∀ W : World, Below w.heap.size w W → RulR D W x [r0, r1, r2, r3, r4, r5] Fr) := hide fun W hW => (RulR.good D).below hr hW LR.out
  obtain ⟨A2, k2, hr2, hlc, hcm⟩ : ∃ A2 k2, r2 = .slice A2 x.right.length k2 ∧ x.right.length ≤ k2 ∧ k2 ≤ maxLen := by
    obtain ⟨v2, _, _, _, _, _, _, _, _, _, ⟨h2, g2⟩, _⟩ := hr
    obtain ⟨A2, k2, h3, h4, h5⟩ := g2.form
    exact ⟨A2, k2, by rw [← h3]; exact Option.some.inj h2, h4, h5⟩
  subst hr2
  unfold maxLen at hcm
  have Hok := hide hok
  have hpos := hok.pos
  have hrl : x.right.length ≤ 9223372036854775807 := by omega
  obtain ⟨CG, CR, CO, hR0, hz0, hw0⟩ := boxR3 w [p0, p1] [r0, r1, .slice A2 x.right.length k2, r3, r4, r5] [.int .i64 y.pos, .string y.name] [.string ⟨#[]⟩, .int .i64 0, .int .i64 0, .bool false] 32 50 81 44
  show Calls _ _ #[.agg #[p0, p1], .agg #[r0, r1, .slice A2 x.right.length k2, r3, r4, r5], .agg #[.int .i64 y.pos, .string y.name]] w _
  clear hg hr hok o0 o1 hlc hcm
  have H1z : Hid (∀ v ∈ ([.string ⟨#[]⟩, .int .i64 0, .int .i64 0, .bool false] : List Value), v.oneCell' = true) := hide (AtrR.one (AtrR.zero D w))
  have hia : (Tryz.prog.info? 44).map (·.size) = some 4 := by kernel_rfl
  have Hia := hide hia
  clear hia
  by_cases hin : 0 ≤ y.pos ∧ y.pos ≤ x.right.length
  case neg =>
    have hin2 := inR_no hin
    have Hat : Hid (attrAt g x y = none) := hide (by unfold attrAt; rw [if_neg hin])
    clear hin
    go_enter Tryz.func94, Tryz.ntmps94
    go_wp2_with fail
    generalize (((w.alloc (Obj.cells #[p0, p1] 32)).alloc (Obj.cells #[r0, r1, .slice A2 x.right.length k2, r3, r4, r5] 50)).alloc (Obj.cells #[.int .i64 y.pos, .string y.name] 81)).alloc (Obj.cells #[.string ⟨#[]⟩, .int .i64 0, .int .i64 0, .bool false] 44) = W0 at CG CR CO hR0 hz0 hw0 ⊢
    have b2 := cell_rule CR (n := w.heap.size + 4) (by omega) 2 rfl
    have c0 := cell_rule CO (n := w.heap.size + 4) (by omega) 0 rfl
    have hB0 : Below (w.heap.size + 4) W0 W0 := Below.refl _ _
    have HZ := hide hR0
    have Hw0 := hide hw0
    clear CG CR CO hR0 hw0
    go_wp2_with (first
      | (go_at_call 16; refine (i_within _ _ _ _).mono ?_; rintro e w' ⟨rfl, rfl⟩)
      | (refine wpList_store_at 44 (.tmp 6) (.tmp 17) rfl Hia.out rfl rfl rfl rfl H1z.out HZ.out (by decide) ?_; intro WF hP; have HP := hide hP; clear hP))
    have hW : Below w.heap.size w WF := Hw0.out.trans (HP.out.below (by omega))
    have hC := HP.out.cellsAt
    have x0 := hC 0 _ rfl
    have x1 := hC 1 _ rfl
    have x2 := hC 2 _ rfl
    have x3 := hC 3 _ rfl
    simp only [Nat.zero_add, Nat.add_zero] at x0 x1 x2 x3
    exact bodyPost_ret (v := .tuple #[.agg #[.string ⟨#[]⟩, .int .i64 0, .int .i64 0, .bool false], .bool false]) (by simp [results, Tryz.results94, go_sem, x0, x1, x2, x3]) rfl
      ⟨[.string ⟨#[]⟩, .int .i64 0, .int .i64 0, .bool false], [], by rw [Hat.out]; rfl, by rw [Hat.out]; exact AtrR.zero D _, Fresh.nil _ _, hW⟩
  have Hat : Hid (attrAt g x y = findA ((findS g.symbols (symAt x y.pos)).getD Sym.zero).attrs y.name) := hide (by unfold attrAt; rw [if_pos hin])
  have hin2 := inR_yes hin
  go_enter Tryz.func94, Tryz.ntmps94
  go_wp2_with fail
  generalize (((w.alloc (Obj.cells #[p0, p1] 32)).alloc (Obj.cells #[r0, r1, .slice A2 x.right.length k2, r3, r4, r5] 50)).alloc (Obj.cells #[.int .i64 y.pos, .string y.name] 81)).alloc (Obj.cells #[.string ⟨#[]⟩, .int .i64 0, .int .i64 0, .bool false] 44) = W0 at CG CR CO hR0 hz0 hw0 ⊢
  have hn0 : w.heap.size + 4 ≤ W0.heap.size := by omega
  have Hw : Hid (∀ W : World, Below (w.heap.size + 4) W0 W → Below w.heap.size w W) := hide fun W h => hw0.trans (h.mono (by omega))
  have hB0 : Below (w.heap.size + 4) W0 W0 := Below.refl _ _
  have a0 := cell_rule CG (n := w.heap.size + 4) (by omega) 0 rfl
  have a1 := cell_rule CG (n := w.heap.size + 4) (by omega) 1 rfl
  have b0 := cell_rule CR (n := w.heap.size + 4) (by omega) 0 rfl
  have b1 := cell_rule CR (n := w.heap.size + 4) (by omega) 1 rfl
  have b2 := cell_rule CR (n := w.heap.size + 4) (by omega) 2 rfl
  have b3 := cell_rule CR (n := w.heap.size + 4) (by omega) 3 rfl
  have b4 := cell_rule CR (n := w.heap.size + 4) (by omega) 4 rfl
  have b5 := cell_rule CR (n := w.heap.size + 4) (by omega) 5 rfl
  have c0 := cell_rule CO (n := w.heap.size + 4) (by omega) 0 rfl
  have c1 := cell_rule CO (n := w.heap.size + 4) (by omega) 1 rfl
  have HR0 : Hid (∀ W : World, Below (w.heap.size + 4) W0 W → W.heap[w.heap.size + 3]? = some (.cells #[.string ⟨#[]⟩, .int .i64 0, .int .i64 0, .bool false] 44 (0, 0))) := hide fun W h => blk_below hR0 h (by omega)
  clear CG CR CO hR0 hz0 hw0
  have N0 : ∀ W : World, (W.alloc (.cells #[.string ⟨#[]⟩, .slice none 0 0] 42)).cell? ⟨W.heap.size, 0, none⟩ = some (.string ⟨#[]⟩) := fun W => cell_of_row _ _ 0 _ _ _ (heap_alloc_new W _)
  have N1 : ∀ W : World, (W.alloc (.cells #[.string ⟨#[]⟩, .slice none 0 0] 42)).cell? ⟨W.heap.size, 1, none⟩ = some (.slice none 0 0) := fun W => cell_of_row _ _ 1 _ _ _ (heap_alloc_new W _)
  have M0 : ∀ W : World, (W.alloc (.cells #[.string ⟨#[]⟩, .slice none 0 0] 42)).frozen? ⟨W.heap.size, 0, none⟩ = false := fun W => frozen_of_row _ _ 0 _ _ (heap_alloc_new W _)
  have M1 : ∀ W : World, (W.alloc (.cells #[.string ⟨#[]⟩, .slice none 0 0] 42)).frozen? ⟨W.heap.size, 1, none⟩ = false := fun W => frozen_of_row _ _ 1 _ _ (heap_alloc_new W _)
  go_wp2_with (go_at_call 16; refine (i_within _ _ _ _).mono ?_; rintro e w' ⟨rfl, rfl⟩)
  go_region_held3 (fun W => Below (w.heap.size + 4) W0 W)
    (first | assumption | exact Below.drew (by assumption) | exact below_alloc hn0 _ (by assumption) | exact Below.drew (below_alloc hn0 _ (by assumption)) | exact below_set2 (by assumption) (by omega))
    (first
      | (go_at_call 45; refine Calls.mono (i_SymbolAt D x _ Fr _ (Hr.out _ (Hw.out _ (by (repeat (first | assumption | exact Below.refl _ _ | apply Below.drew | refine below_alloc (by omega) _ ?_))))) y.pos hpos) ?_; rintro en w1 ⟨rfl, hb1⟩; have hB1 : Below (w.heap.size + 4) W0 w1 := below_step (by (repeat (first | assumption | exact Below.refl _ _ | apply Below.drew | refine below_alloc (by omega) _ ?_))) (by omega) hb1; have hz1 := hB1.size; (first | have zb1 := zbox hb1 | have zb1 := zboxd hb1 | skip); clear hb1)
      | (go_at_call 44; refine Calls.mono (i_findSymbol D g _ Fg _ (Hg.out _ (Hw.out _ (by (repeat (first | assumption | exact Below.refl _ _ | apply Below.drew | refine below_alloc (by omega) _ ?_))))) (symAt x y.pos)) ?_; rintro en w2 ⟨us, F2, rfl, hR2, hF2, hb2⟩; generalize hX : (findS g.symbols (symAt x y.pos)).getD Sym.zero = X at hR2; have HX := hide hX; clear hX; obtain ⟨A, cap, hus, HR2⟩ := sym_form hR2; subst hus; have hB2 : Below (w.heap.size + 4) W0 w2 := below_step (by (repeat (first | assumption | exact Below.refl _ _ | apply Below.drew | refine below_alloc (by omega) _ ?_))) (by omega) hb2; have hz2 := hB2.size
         (first
           | (have zb2 := zbox hb2; have q0 := cell_at (i := 0) zb2.1 (by simp); have q1 := cell_at (i := 1) zb2.1 (by simp); simp only [Array.getD_eq_getD_getElem?, List.getElem?_toArray, List.getElem?_cons_succ, List.getElem?_cons_zero, Option.getD_some] at q0 q1; have z0 := frozen_of_row w2 _ 0 _ _ zb2.1; have z1 := frozen_of_row w2 _ 1 _ _ zb2.1; (try simp only [drew_heap] at q0); (try simp only [drew_heap] at q1); (try simp only [drew_heap] at z0); (try simp only [drew_heap] at z1))
           | (have zb2 := zcarry zb1 hb2; have q0 := cell_at (i := 0) zb2.1 (by simp); have q1 := cell_at (i := 1) zb2.1 (by simp); simp only [Array.getD_eq_getD_getElem?, List.getElem?_toArray, List.getElem?_cons_succ, List.getElem?_cons_zero, Option.getD_some] at q0 q1; have z0 := frozen_of_row w2 _ 0 _ _ zb2.1; have z1 := frozen_of_row w2 _ 1 _ _ zb2.1; (try simp only [drew_heap] at q0); (try simp only [drew_heap] at q1); (try simp only [drew_heap] at z0); (try simp only [drew_heap] at z1))
           | skip)
         clear hb2))
  all_goals
    first
    | (have C : CellsAt _ w1.heap.size 0 _ := cells_set2 zb2.1 (.string X.name) (.slice A X.attrs.length cap)
       have hWF := below_set2 (u := .string X.name) (v := .slice A X.attrs.length cap) (Below.refl w.heap.size w2) (g := w1.heap.size) (by omega)
       generalize ((w2.setCell ⟨w1.heap.size, 0, none⟩ (.string X.name)).setCell ⟨w1.heap.size, 1, none⟩ (.slice A X.attrs.length cap)) = WF at *
       generalize w1.heap.size = kb at C ⊢)
    | (have C : CellsAt _ W0.heap.size 0 _ := cells_set2 zb2.1 (.string X.name) (.slice A X.attrs.length cap)
       have hWF := below_set2 (u := .string X.name) (v := .slice A X.attrs.length cap) (Below.refl w.heap.size w2) (g := W0.heap.size) (by omega)
       generalize ((w2.setCell ⟨W0.heap.size, 0, none⟩ (.string X.name)).setCell ⟨W0.heap.size, 1, none⟩ (.slice A X.attrs.length cap)) = WF at *
       generalize W0.heap.size = kb at C ⊢)
    | (have C := CellsAt.new w2 [.string X.name, .slice A X.attrs.length cap] 42
       have hWF : Below w.heap.size w2 (w2.alloc (Obj.cells #[.string X.name, .slice A X.attrs.length cap] 42)) := (Below.refl w.heap.size w2).alloc (by omega) _
       generalize w2.alloc (Obj.cells #[.string X.name, .slice A X.attrs.length cap] 42) = WF at *
       generalize w2.heap.size = kb at C ⊢)
  all_goals
    have hF : Below (w.heap.size + 4) W0 WF := by assumption
    have s0 := C 0 _ rfl
    have s1 := C 1 _ rfl
    simp only [Nat.zero_add, Nat.add_zero] at s0 s1
    have e1 := c1 WF hF
    have HRx : Hid (SymR D WF X [.string X.name, .slice A X.attrs.length cap] F2) := hide ((SymR.good D).below HR2.out.1 hWF (fun k hk => LG.out k (hF2 k hk)))
    have HF := hide hF
    have HF2 := hide hF2
    have hzF := hF.size
    clear hF2 C hWF HR2 c1 c0 a0 a1 b0 b1 b2 b3 b4 b5
    go_wp2_with (first
      | (go_at_call 125; refine Calls.mono (i_FindAttribute D X _ F2 _ HRx.out y.name) ?_; rintro en w3 ⟨us, F3, rfl, hR3, _, hb3⟩
         obtain ⟨u0, u1, u2, u3, rfl⟩ := list4 ((AtrR.good D).len hR3)
         obtain rfl := AtrR.plain D _ _ _ _ hR3
         have hf3 : Below (w.heap.size + 4) W0 w3 := below_step HF.out (by omega) hb3
         have H3 := hide hR3; have H13 := hide (AtrR.one hR3); have HZ := hide (HR0.out w3 hf3); have Hf3 := hide hf3
         clear hR3 hb3 hf3)
      | (refine wpList_store_at 44 (.tmp 6) (.tmp 31) rfl Hia.out rfl rfl rfl rfl H13.out HZ.out (by decide) ?_; intro W4 hP; have HP := hide hP; clear hP))
    have hW : Below w.heap.size w W4 := (Hw.out _ Hf3.out).trans (HP.out.below (by omega))
    have hW2 : Below 0 w3 W4 := HP.out.below (by omega)
    have hC := HP.out.cellsAt
    have x0 := hC 0 _ rfl
    have x1 := hC 1 _ rfl
    have x2 := hC 2 _ rfl
    have x3 := hC 3 _ rfl
    simp only [Nat.zero_add, Nat.add_zero] at x0 x1 x2 x3
    exact bodyPost_ret (v := .tuple #[.agg #[u0, u1, u2, u3], .bool (findA X.attrs y.name).isSome]) (by simp [results, Tryz.results94, go_sem, x0, x1, x2, x3]) rfl
      ⟨[u0, u1, u2, u3], [], by rw [Hat.out, HX.out], by rw [Hat.out, HX.out]; exact (AtrR.good D).below H3.out hW2 (by simp), Fresh.nil _ _, hW⟩
end Go.Proofs.YthlhhnnlbpecnaaGreat

/- May an equation use an occurrence: the program's. Conditions: none beyond that the values can be read. -/
namespace Go.Proofs.YthlhhnnlbpecnaaGreat
set_option linter.unusedSimpArgs false
set_option linter.unusedVariables false
set_option maxRecDepth 100000
open Go.RowKit Go.WideShapes
set_option linter.unusedVariables false

/-- May an equation use an occurrence. -/
def mayU (g : Grm) (x : Rul) (y : Occ) : Bool := match attrAt g x y with
  | none => false
  | some a => (a.mode == if y.pos = 0 then 1 else 2)
theorem far_set2 (W : World) (b k : Nat) (u v : Value) (h : k ≠ b) : ((W.setCell ⟨b, 0, none⟩ u).setCell ⟨b, 1, none⟩ v).heap[k]? = W.heap[k]? := by
  simp [World.setCell, Array.getElem?_modify, Ne.symm h]
set_option maxRecDepth 100000 in
set_option maxHeartbeats 4000000 in
theorem i_MayUse (D : Nat) (g : Grm) (x : Rul) (y : Occ) (cg cr co : List Value) (Fg Fr Fo : List Nat) (w : World) (hg : GrmR D w g cg Fg) (hr : RulR D w x cr Fr) (ho : OccR D w y co Fo) :
    Calls Tryz.prog 58 #[.agg cg.toArray, .agg cr.toArray, .agg co.toArray] w fun en w' => en = .returned (.bool (mayU g x y)) ∧ Below w.heap.size w w' := by
  have LG := hide ((GrmR.good D).lt hg)
  have LR := hide ((RulR.good D).lt hr)
  obtain ⟨p0, p1, rfl⟩ := list2 ((GrmR.good D).len hg)
  obtain ⟨r0, r1, r2, r3, r4, r5, rfl⟩ := list_6 ((RulR.good D).len hr)
  obtain ⟨q0, q1, rfl⟩ := list2 ((OccR.good D).len ho)
  have ho2 := ho
  obtain ⟨_, _, o0, o1, rfl⟩ := ho2
  obtain rfl := Option.some.inj o0
  obtain rfl := Option.some.inj o1
  obtain ⟨CG, CR, CO, hz0, hw0⟩ := boxes3 w [p0, p1] [r0, r1, r2, r3, r4, r5] [.int .i64 y.pos, .string y.name] 32 50 81
  show Calls _ _ #[.agg #[p0, p1], .agg #[r0, r1, r2, r3, r4, r5], .agg #[.int .i64 y.pos, .string y.name]] w _
  go_enter Tryz.func58, Tryz.ntmps58
  go_wp2_with fail
  have Hg : Hid (∀ W : World, Below w.heap.size w W → GrmR D W g [p0, p1] Fg) := hide fun W hW => (GrmR.good D).below hg hW LG.out
  have Hr : Hid (∀ W : World, Below w.heap.size w W → RulR D W x [r0, r1, r2, r3, r4, r5] Fr) := hide fun W hW => (RulR.good D).below hr hW LR.out
  have Ho : Hid (∀ W : World, Below w.heap.size w W → OccR D W y [.int .i64 y.pos, .string y.name] []) := hide fun W hW => (OccR.good D).below ho hW (by simp)
  generalize ((w.alloc (Obj.cells #[p0, p1] 32)).alloc (Obj.cells #[r0, r1, r2, r3, r4, r5] 50)).alloc (Obj.cells #[.int .i64 y.pos, .string y.name] 81) = W0 at CG CR CO hz0 hw0 ⊢
  have hn0 : w.heap.size + 3 ≤ W0.heap.size := by omega
  have Hw : Hid (∀ W : World, Below (w.heap.size + 3) W0 W → Below w.heap.size w W) := hide fun W h => hw0.trans (h.mono (by omega))
  have hB0 : Below (w.heap.size + 3) W0 W0 := Below.refl _ _
  have a0 := cell_rule CG (n := w.heap.size + 3) (by omega) 0 rfl
  have a1 := cell_rule CG (n := w.heap.size + 3) (by omega) 1 rfl
  have b0 := cell_rule CR (n := w.heap.size + 3) (by omega) 0 rfl
  have b1 := cell_rule CR (n := w.heap.size + 3) (by omega) 1 rfl
  have b2 := cell_rule CR (n := w.heap.size + 3) (by omega) 2 rfl
  have b3 := cell_rule CR (n := w.heap.size + 3) (by omega) 3 rfl
  have b4 := cell_rule CR (n := w.heap.size + 3) (by omega) 4 rfl
  have b5 := cell_rule CR (n := w.heap.size + 3) (by omega) 5 rfl
  have c0 := cell_rule CO (n := w.heap.size + 3) (by omega) 0 rfl
  have c1 := cell_rule CO (n := w.heap.size + 3) (by omega) 1 rfl
  have Hn := hide hn0
  clear CG CR CO hw0 hg hr ho o0 o1
  have hia : (Tryz.prog.info? 44).map (·.size) = some 4 := by kernel_rfl
  have Hia := hide hia
  clear hia
  by_cases hp : y.pos = 0
  all_goals
    cases hA : attrAt g x y with
    | none =>
      have Hm : Hid (mayU g x y = false) := hide (by unfold mayU; rw [hA])
      have HA := hide hA
      clear hA
      go_wp2_with (first
        | (go_at_call 94; refine Calls.mono (i_attributeAt D g x y _ _ _ Fg Fr [] _ (Hg.out _ (Hw.out _ hB0)) (Hr.out _ (Hw.out _ hB0)) (Ho.out _ (Hw.out _ hB0))) ?_; rw [HA.out]; rintro en w3 ⟨us, F3, rfl, hR3, _, hb3⟩; obtain ⟨u0, u1, u2, u3, rfl⟩ := list4 ((AtrR.good D).len hR3); have H13 := hide (AtrR.one hR3); have HZ := hide (heap_alloc_new w3 (.cells #[.string ⟨#[]⟩, .int .i64 0, .int .i64 0, .bool false] 44)); have hB3 : Below (w.heap.size + 3) W0 w3 := hb3.mono Hn.out; have hBx := below_alloc hn0 (.cells #[.string ⟨#[]⟩, .int .i64 0, .int .i64 0, .bool false] 44) hB3; clear hR3 hb3)
        | (refine wpList_store_at 44 (.tmp 7) (.tmp 14) rfl Hia.out rfl rfl rfl rfl H13.out HZ.out (by decide) ?_; intro W4 hP; have hB4 : Below (w.heap.size + 3) W0 W4 := hBx.trans (hP.below (Nat.le_trans hn0 hB3.size)); have x2 := hP.cellsAt 2 _ rfl; simp only [Nat.zero_add] at x2; clear hP))
      go_ret
      exact ⟨by rw [Hm.out]; rfl, Hw.out _ (by assumption)⟩
    | some A =>
      have Hm : Hid (mayU g x y = (A.mode == if y.pos = 0 then 1 else 2)) := hide (by unfold mayU; rw [hA])
      have HA := hide hA
      clear hA
      go_wp2_with (first
        | (go_at_call 94; refine Calls.mono (i_attributeAt D g x y _ _ _ Fg Fr [] _ (Hg.out _ (Hw.out _ hB0)) (Hr.out _ (Hw.out _ hB0)) (Ho.out _ (Hw.out _ hB0))) ?_; rw [HA.out]; rintro en w3 ⟨us, F3, rfl, hR3, _, hb3⟩; obtain ⟨u0, u1, u2, u3, rfl⟩ := list4 ((AtrR.good D).len hR3); have H13 := hide (AtrR.one hR3); have HZ := hide (heap_alloc_new w3 (.cells #[.string ⟨#[]⟩, .int .i64 0, .int .i64 0, .bool false] 44)); obtain ⟨_, _, _, _, hu2, _⟩ := hR3; obtain rfl := Option.some.inj hu2;  have hB3 : Below (w.heap.size + 3) W0 w3 := hb3.mono Hn.out; have hBx := below_alloc hn0 (.cells #[.string ⟨#[]⟩, .int .i64 0, .int .i64 0, .bool false] 44) hB3; clear hb3)
        | (refine wpList_store_at 44 (.tmp 7) (.tmp 14) rfl Hia.out rfl rfl rfl rfl H13.out HZ.out (by decide) ?_; intro W4 hP; have hB4 : Below (w.heap.size + 3) W0 W4 := hBx.trans (hP.below (Nat.le_trans hn0 hB3.size)); have x2 := hP.cellsAt 2 _ rfl; simp only [Nat.zero_add] at x2; clear hP))
      go_ret
      exact ⟨by rw [Hm.out]; simp [hp], Hw.out _ (by assumption)⟩
end Go.Proofs.YthlhhnnlbpecnaaGreat
