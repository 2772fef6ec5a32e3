/- Expressions copied into new memory: both sides. Conditions: at most 2^20 arguments a node. -/
import Derived.Test.YtaihdnlpdibkoaaExGlue
import Derived.Test.YtaihdnlpdibkoaaBox
namespace Go.Proofs.Ytaihdnlpdibkoaa
set_option maxRecDepth 100000
open Go.RowKit Go.WideShapes
set_option linter.unusedVariables false

theorem infoEx : (Try.prog.info? 52).map (fun i => (i.zero, i.size, i.bytes)) = some (some (.agg #[.int .i64 0, .int .i64 0, .int .i64 0, .int .i64 0, .string ByteArray.empty, .string ByteArray.empty, .slice none 0 0]), 7, 88) := by kernel_rfl
theorem far2 {w W1 WF : World} {b0 b1 o0 o1 B : Nat} {vs us : List Value} {c0 c1 : Array Value} {t0 t1 : TypeId} (h0 : Put w b0 o0 vs c0 t0 W1) (h1 : Put W1 b1 o1 us c1 t1 WF) (hb0 : b0 < B) (hb1 : b1 < B) {G : List Nat} (hG : ∀ k ∈ G, B ≤ k) : ∀ k ∈ G, WF.heap[k]? = w.heap[k]? := fun k hk => by
  have := hG k hk
  rw [h1.far k (by omega), h0.far k (by omega)]
def CpE_i (d : Nat) : Prop := ∀ (e : Ex) (cs : List Value) (F : List Nat) (w : World), ExR d w e cs F → slim d e →
  Calls Try.prog 82 #[.agg cs.toArray] w fun en w' => ∃ us F', en = .returned (.agg (List.toArray us)) ∧ ExR d w' e us F' ∧ Fresh w.heap.size w' F' ∧ Below w.heap.size w w'
set_option maxRecDepth 100000 in
set_option maxHeartbeats 2000000 in
theorem i_copyExpr_step {d : Nat} (hE : CpE_i d) : CpE_i (d + 1) := fun e cs F w h hslim => by
  obtain ⟨A, cap, rfl, hok, hl, hm, hs⟩ := ex_form h
  have HF := hide (hs.lt (ExR.good d))
  obtain ⟨⟨k, n, p, t, s, m⟩, l⟩ := e
  simp only [Ex.args] at hs hl HF
  have hsl1 : l.length ≤ 1048576 := hslim.1
  have Hsl2 : Hid (∀ x ∈ l, slim d x) := hide hslim.2
  have hlm : l.length ≤ 9223372036854775807 := by omega
  have Hs := hide hs
  have HE := hide hE
  have Hok := hide hok
  have hi : (Try.prog.info? 52).map (·.size) = some 7 := by kernel_rfl
  have hi1 : (Try.prog.info? 50).map (·.size) = some 1 := by kernel_rfl
  have Hi := hide hi
  have Hi1 := hide hi1
  obtain ⟨C0, hR0, hz0, hw0⟩ := boxR w [.int .i64 k, .int .i64 n, .int .i64 p, .int .i64 t, .string s, .string m, .slice A l.length cap] [.int .i64 0, .int .i64 0, .int .i64 0, .int .i64 0, .string ⟨#[]⟩, .string ⟨#[]⟩, .slice none 0 0] 52 52
  have hB00 := heap_alloc_new w (.cells #[.int .i64 k, .int .i64 n, .int .i64 p, .int .i64 t, .string s, .string m, .slice A l.length cap] 52)
  have hBx := (((Below.refl (w.heap.size + 1) (w.alloc (.cells #[.int .i64 k, .int .i64 n, .int .i64 p, .int .i64 t, .string s, .string m, .slice A l.length cap] 52))).alloc (by simp) (.cells #[.int .i64 0, .int .i64 0, .int .i64 0, .int .i64 0, .string ⟨#[]⟩, .string ⟨#[]⟩, .slice none 0 0] 52)).block w.heap.size (by omega)).trans hB00
  show Calls _ _ #[.agg #[.int .i64 k, .int .i64 n, .int .i64 p, .int .i64 t, .string s, .string m, .slice A l.length cap]] w _
  clear hs h hok hslim hE hi hi1 hm hB00
  go_enter Try.func82, Try.ntmps82
  go_wp2_with fail
  generalize (w.alloc (Obj.cells #[.int .i64 k, .int .i64 n, .int .i64 p, .int .i64 t, .string s, .string m, .slice A l.length cap] 52)).alloc (Obj.cells #[.int .i64 0, .int .i64 0, .int .i64 0, .int .i64 0, .string ⟨#[]⟩, .string ⟨#[]⟩, .slice none 0 0] 52) = W0 at C0 hR0 hz0 hw0 hBx ⊢
  have hn0 : w.heap.size + 2 ≤ W0.heap.size := by omega
  have Hw : Hid (∀ W : World, Below (w.heap.size + 2) W0 W → Below w.heap.size w W) := hide fun W h => hw0.trans (h.mono (by omega))
  have hB0 : Below (w.heap.size + 2) W0 W0 := Below.refl _ _
  have e6 := cell_rule C0 (n := w.heap.size + 2) (by omega) 6 rfl
  have HC0 : Hid (∀ W : World, Below (w.heap.size + 2) W0 W → CellsAt W w.heap.size 0 [.int .i64 k, .int .i64 n, .int .i64 p, .int .i64 t, .string s, .string m, .slice A l.length cap]) := hide fun W h => C0.below h (by omega)
  have HR0 : Hid (∀ W : World, Below (w.heap.size + 2) W0 W → W.heap[w.heap.size + 1]? = some (.cells #[.int .i64 0, .int .i64 0, .int .i64 0, .int .i64 0, .string ⟨#[]⟩, .string ⟨#[]⟩, .slice none 0 0] 52 (0, 0))) := hide fun W h => blk_below hR0 h (by omega)
  have HBx : Hid (∀ W : World, Below (w.heap.size + 2) W0 W → W.heap[w.heap.size]? = some (.cells #[.int .i64 k, .int .i64 n, .int .i64 p, .int .i64 t, .string s, .string m, .slice A l.length cap] 52 (0, 0))) := hide fun W h => blk_below hBx h (by omega)
  have Hz0 := hide hz0
  clear C0 hz0 hw0 hR0 hBx
  go_wp2_with fail
  go_loopw [3, 9] (fun o i wr => ∃ (j : Nat) (F' : List Nat), j ≤ l.length ∧ i = .int .i64 j ∧ Hid (OwnS 7 (ExR d) (w.heap.size + 2) 52 wr (l.take j) o F') ∧ Hid (Below (w.heap.size + 2) W0 wr)) (fun _ i _ => l.length - (intOf i).toNat)
  case atStart => exact ⟨0, [], by omega, rfl, hide (OwnS.nil _), hide hB0⟩
  case round =>
    obtain ⟨j, F', hj, rfl, Ho, Hb⟩ := hrel
    have hBr := Hb.out
    by_cases hlt : j < l.length
    · have hX : l[j]? = some l[j] := List.getElem?_eq_getElem hlt
      generalize l[j] = X at hX
      obtain ⟨b, off, cs, Fk, hA, _, hbF, hFk, hcl, hcat, hR⟩ := SlR.get (ExR.good d) Hs.out hX
      subst hA
      have H1 := hide (ExR.one hR)
      obtain ⟨c0, c1, c2, c3, c4, c5, c6, rfl⟩ := list7 hcl
      have HX := hide hX
      have HlF : Hid (∀ k ∈ Fk, k < w.heap.size) := hide fun k hk => HF.out k (hFk k hk)
      have hlb : b < w.heap.size := HF.out b hbF
      have Hc : Hid (CellsAt wr b (off + j * 7) [c0, c1, c2, c3, c4, c5, c6]) := hide (hcat.below (Hw.out wr hBr) hlb)
      have Hn : Hid ([c0, c1, c2, c3, c4, c5, c6].length = 7) := hide rfl
      have HRx : Hid (∀ W : World, Below w.heap.size w W → ExR d W X [c0, c1, c2, c3, c4, c5, c6] Fk) := hide fun W hW => (ExR.good d).below hR hW HlF.out
      have Hslx := hide (Hsl2.out X (List.mem_of_getElem? hX))
      have hj0 : (0 : Int) ≤ (j : Int) := by omega
      have hj1 : (j : Int) < (l.length : Int) := by omega
      have hbase : w.heap.size + 2 ≤ wr.heap.size := Nat.le_trans hn0 hBr.size
      have htl : (l.take j).length = j := by rw [List.length_take]; omega
      clear hX hcat hFk hbF hcl hR
      go_wp2_with (first
        | refine wpList_load_at 52 (.tmp 11) rfl Try.underlying52 rfl Hi.out rfl rfl Hn.out Hc.out ?_
        | (refine wpList_store_new 52 (.tmp 5) (.tmp 12) rfl Hi.out rfl rfl rfl rfl Hn.out H1.out rfl ?_; refine hold ?_))
      have C := CellsAt.new wr [c0, c1, c2, c3, c4, c5, c6] 52
      have hwr : Below wr.heap.size wr (wr.alloc (Obj.cells #[c0, c1, c2, c3, c4, c5, c6] 52)) := (Below.refl _ _).alloc (Nat.le_refl _) _
      have hwv : Below (w.heap.size + 2) W0 (wr.alloc (Obj.cells #[c0, c1, c2, c3, c4, c5, c6] 52)) := hBr.alloc hbase _
      generalize wr.alloc (Obj.cells #[c0, c1, c2, c3, c4, c5, c6] 52) = V1 at C hwr hwv ⊢
      have HC := hide C
      have Hwr := hide hwr
      clear C hwr
      refine Hold.go ?_
      go_wp2_with (refine wpList_load_at 52 (.tmp 5) rfl Try.underlying52 rfl Hi.out rfl rfl Hn.out HC.out ?_)
      refine Calls.mono (HE.out X _ Fk V1 (HRx.out V1 (Hw.out V1 hwv)) Hslx.out) ?_
      rintro en w2 ⟨us, F2, rfl, hR2, hf2, hb2⟩
      have H12 := hide (ExR.one hR2)
      obtain ⟨u0, u1, u2, u3, u4, u5, u6, rfl⟩ := list7 ((ExR.good d).len hR2)
      have Hb2 : Hid (Below wr.heap.size wr w2) := hide (Hwr.out.trans (hb2.mono Hwr.out.size))
      have Hf2 : Hid (Fresh wr.heap.size w2 F2) := hide (hf2.mono Hwr.out.size)
      have HR2 := hide hR2
      clear hR2 hf2 hb2
      go_wp2_with (at_builtin; refine app_ownS rfl (.tmp 13) (.tmp 16) 50 52 rfl Try.underlying50 infoEx rfl (by decide) (ExR.good d) wr w2 (w.heap.size + 2) _ (l.take j) F' Ho.out rfl Hb2.out X [u0, u1, u2, u3, u4, u5, u6] F2 HR2.out Hf2.out H12.out rfl (by omega) (by omega) hbase ?_; intro v1 w1 hown hbl)
      have Hown := hide hown
      have Hbl := hide hbl
      clear hown hbl
      go_wp2_with fail
      go_roundw
      case rel => exact ⟨j + 1, F' ++ F2, by omega, by go_num, hide (by rw [take_snoc HX.out]; exact Hown.out), hide (Hb.out.trans Hbl.out)⟩
      case measure => simp [intOf]; omega
    · have hjl : j = l.length := by omega
      subst hjl
      have ho2 := Ho.out
      rw [List.take_length] at ho2
      have Ho2 := hide ho2
      clear ho2
      obtain ⟨A2, cap2, rfl, _, _⟩ := Ho2.out.form
      have HBr := hide (HBx.out wr hBr)
      have H1o : Hid (∀ v ∈ ([.slice A2 l.length cap2] : List Value), v.oneCell' = true) := hide (by simp [Value.oneCell'])
      go_wp2_with (refine wpList_store_any 50 (.tmp 20) (.tmp 19) rfl (cs := [.slice A2 l.length cap2]) rfl Hi1.out rfl rfl rfl rfl H1o.out HBr.out (by simp) ?_; intro W1 hP; have HP := hide hP; clear hP; refine hold ?_)
      have HCx : Hid (CellsAt W1 w.heap.size 0 [.int .i64 k, .int .i64 n, .int .i64 p, .int .i64 t, .string s, .string m, .slice A2 l.length cap2]) := hide fun q u hu => by
        have h6 := HP.out.cellsAt
        have h0 := HP.out.keeps HBr.out (o' := 0) (us := [.int .i64 k, .int .i64 n, .int .i64 p, .int .i64 t, .string s, .string m]) (fun q u hu => (HC0.out wr hBr) q u (by
          have := (List.getElem?_eq_some_iff.1 hu).1
          rcases q with _ | _ | _ | _ | _ | _ | q <;> first | exact hu | (simp at this; omega))) (.inl (by simp))
        rcases q with _ | _ | _ | _ | _ | _ | _ | q
        · exact h0 0 u hu
        · exact h0 1 u hu
        · exact h0 2 u hu
        · exact h0 3 u hu
        · exact h0 4 u hu
        · exact h0 5 u hu
        · exact h6 0 u hu
        · simp at hu
      have HZ : Hid (W1.heap[w.heap.size + 1]? = some (.cells #[.int .i64 0, .int .i64 0, .int .i64 0, .int .i64 0, .string ⟨#[]⟩, .string ⟨#[]⟩, .slice none 0 0] 52 (0, 0))) := hide ((HP.out.far _ (by omega)).trans (HR0.out wr hBr))
      have HnO : Hid (([.int .i64 k, .int .i64 n, .int .i64 p, .int .i64 t, .string s, .string m, .slice A2 l.length cap2] : List Value).length = 7) := hide rfl
      have H1O : Hid (∀ v ∈ ([.int .i64 k, .int .i64 n, .int .i64 p, .int .i64 t, .string s, .string m, .slice A2 l.length cap2] : List Value), v.oneCell' = true) := hide (by simp [Value.oneCell'])
      refine Hold.go ?_
      go_wp2_with (first
        | refine wpList_load_at 52 (.tmp 1) rfl Try.underlying52 rfl Hi.out rfl rfl HnO.out HCx.out ?_
        | (refine wpList_store_at 52 (.tmp 2) (.tmp 21) rfl Hi.out rfl rfl rfl HnO.out H1O.out HZ.out (by decide) ?_; intro WF hQ; have HQ := hide hQ; clear hQ))
      obtain ⟨G, hG, hGf⟩ := Ho2.out.slr (ExR.good d)
      have hfar := far2 HP.out HQ.out (show w.heap.size < w.heap.size + 2 by omega) (show w.heap.size + 1 < w.heap.size + 2 by omega) hGf.from_
      have hzz : wr.heap.size ≤ WF.heap.size := by rw [HQ.out.size, HP.out.size]; exact Nat.le_refl _
      have hW : Below w.heap.size w WF := ((Hw.out wr hBr).trans (HP.out.below (Nat.le_refl _))).trans (HQ.out.below (by omega))
      obtain ⟨x0, x1, x2, x3, x4, x5, x6⟩ := HQ.out.cellsAt.seven0
      exact bodyPost_ret (v := .agg #[.int .i64 k, .int .i64 n, .int .i64 p, .int .i64 t, .string s, .string m, .slice A2 l.length cap2]) (by simp [results, Try.results82, go_sem, x0, x1, x2, x3, x4, x5, x6]) rfl
        ⟨[.int .i64 k, .int .i64 n, .int .i64 p, .int .i64 t, .string s, .string m, .slice A2 l.length cap2], G, rfl, ⟨_, rfl, Hok.out, hG.frame (ExR.good d) hfar hzz⟩, (hGf.keep hfar).mono (by omega), hW⟩
theorem i_copyExprD : ∀ d, CpE_i d
  | 0 => fun _ _ _ _ h _ => h.elim
  | d + 1 => i_copyExpr_step (i_copyExprD d)
theorem i_copyExpr (D : Nat) (x : Ex) (cs : List Value) (F : List Nat) (w : World) (h : ExR D w x cs F) (hbk : bulkE D x ≤ 1048576) :
    Calls Try.prog 82 #[.agg cs.toArray] w fun en w' => ∃ us F', en = .returned (.agg (List.toArray us)) ∧ ExR D w' x us F' ∧ Fresh w.heap.size w' F' ∧ Below w.heap.size w w' := i_copyExprD D x cs F w h (slim_of_bulk hbk)
def CpE_s (d : Nat) : Prop := ∀ (e : Ex) (cs : List Value) (F : List Nat) (w : World), ExR d w e cs F → slim d e →
  Calls Try.prog 78 #[.agg cs.toArray] w fun en w' => ∃ us F', en = .returned (.agg (List.toArray us)) ∧ ExR d w' e us F' ∧ Fresh w.heap.size w' F' ∧ Below w.heap.size w w'
set_option maxRecDepth 100000 in
set_option maxHeartbeats 2000000 in
theorem s_l4Copy_step {d : Nat} (hE : CpE_s d) : CpE_s (d + 1) := fun e cs F w h hslim => by
  obtain ⟨A, cap, rfl, hok, hl, hm, hs⟩ := ex_form h
  have HF := hide (hs.lt (ExR.good d))
  obtain ⟨⟨k, n, p, t, s, m⟩, l⟩ := e
  simp only [Ex.args] at hs hl HF
  have hsl1 : l.length ≤ 1048576 := hslim.1
  have Hsl2 : Hid (∀ x ∈ l, slim d x) := hide hslim.2
  have hlm : l.length ≤ 9223372036854775807 := by omega
  have Hs := hide hs
  have HE := hide hE
  have Hok := hide hok
  have hi : (Try.prog.info? 52).map (·.size) = some 7 := by kernel_rfl
  have hi1 : (Try.prog.info? 50).map (·.size) = some 1 := by kernel_rfl
  have Hi := hide hi
  have Hi1 := hide hi1
  obtain ⟨C0, hR0, hz0, hw0⟩ := boxR w [.int .i64 k, .int .i64 n, .int .i64 p, .int .i64 t, .string s, .string m, .slice A l.length cap] [.int .i64 0, .int .i64 0, .int .i64 0, .int .i64 0, .string ⟨#[]⟩, .string ⟨#[]⟩, .slice none 0 0] 52 52
  have hB00 := heap_alloc_new w (.cells #[.int .i64 k, .int .i64 n, .int .i64 p, .int .i64 t, .string s, .string m, .slice A l.length cap] 52)
  have hBx := (((Below.refl (w.heap.size + 1) (w.alloc (.cells #[.int .i64 k, .int .i64 n, .int .i64 p, .int .i64 t, .string s, .string m, .slice A l.length cap] 52))).alloc (by simp) (.cells #[.int .i64 0, .int .i64 0, .int .i64 0, .int .i64 0, .string ⟨#[]⟩, .string ⟨#[]⟩, .slice none 0 0] 52)).block w.heap.size (by omega)).trans hB00
  show Calls _ _ #[.agg #[.int .i64 k, .int .i64 n, .int .i64 p, .int .i64 t, .string s, .string m, .slice A l.length cap]] w _
  clear hs h hok hslim hE hi hi1 hm hB00
  go_enter Try.func78, Try.ntmps78
  go_wp2_with fail
  generalize (w.alloc (Obj.cells #[.int .i64 k, .int .i64 n, .int .i64 p, .int .i64 t, .string s, .string m, .slice A l.length cap] 52)).alloc (Obj.cells #[.int .i64 0, .int .i64 0, .int .i64 0, .int .i64 0, .string ⟨#[]⟩, .string ⟨#[]⟩, .slice none 0 0] 52) = W0 at C0 hR0 hz0 hw0 hBx ⊢
  have hn0 : w.heap.size + 2 ≤ W0.heap.size := by omega
  have Hw : Hid (∀ W : World, Below (w.heap.size + 2) W0 W → Below w.heap.size w W) := hide fun W h => hw0.trans (h.mono (by omega))
  have hB0 : Below (w.heap.size + 2) W0 W0 := Below.refl _ _
  have e6 := cell_rule C0 (n := w.heap.size + 2) (by omega) 6 rfl
  have HC0 : Hid (∀ W : World, Below (w.heap.size + 2) W0 W → CellsAt W w.heap.size 0 [.int .i64 k, .int .i64 n, .int .i64 p, .int .i64 t, .string s, .string m, .slice A l.length cap]) := hide fun W h => C0.below h (by omega)
  have HR0 : Hid (∀ W : World, Below (w.heap.size + 2) W0 W → W.heap[w.heap.size + 1]? = some (.cells #[.int .i64 0, .int .i64 0, .int .i64 0, .int .i64 0, .string ⟨#[]⟩, .string ⟨#[]⟩, .slice none 0 0] 52 (0, 0))) := hide fun W h => blk_below hR0 h (by omega)
  have HBx : Hid (∀ W : World, Below (w.heap.size + 2) W0 W → W.heap[w.heap.size]? = some (.cells #[.int .i64 k, .int .i64 n, .int .i64 p, .int .i64 t, .string s, .string m, .slice A l.length cap] 52 (0, 0))) := hide fun W h => blk_below hBx h (by omega)
  have Hz0 := hide hz0
  clear C0 hz0 hw0 hR0 hBx
  go_wp2_with fail
  go_loopw [3, 4] (fun o i wr => ∃ (j : Nat) (F' : List Nat), j ≤ l.length ∧ i = .int .i64 j ∧ Hid (OwnS 7 (ExR d) (w.heap.size + 2) 52 wr (l.take j) o F') ∧ Hid (Below (w.heap.size + 2) W0 wr)) (fun _ i _ => l.length - (intOf i).toNat)
  case atStart => exact ⟨0, [], by omega, rfl, hide (show OwnS 7 (ExR d) _ _ _ [] _ [] from by have h := OwnS.made (n := 7) (R := ExR d) (e := 52) W0 hn0; rw [Hz0.out] at h; exact h), hide (hB0.alloc hn0 _)⟩
  case round =>
    obtain ⟨j, F', hj, rfl, Ho, Hb⟩ := hrel
    have hBr := Hb.out
    by_cases hlt : j < l.length
    · have hX : l[j]? = some l[j] := List.getElem?_eq_getElem hlt
      generalize l[j] = X at hX
      obtain ⟨b, off, cs, Fk, hA, _, hbF, hFk, hcl, hcat, hR⟩ := SlR.get (ExR.good d) Hs.out hX
      subst hA
      have H1 := hide (ExR.one hR)
      obtain ⟨c0, c1, c2, c3, c4, c5, c6, rfl⟩ := list7 hcl
      have HX := hide hX
      have HlF : Hid (∀ k ∈ Fk, k < w.heap.size) := hide fun k hk => HF.out k (hFk k hk)
      have hlb : b < w.heap.size := HF.out b hbF
      have Hc : Hid (CellsAt wr b (off + j * 7) [c0, c1, c2, c3, c4, c5, c6]) := hide (hcat.below (Hw.out wr hBr) hlb)
      have Hn : Hid ([c0, c1, c2, c3, c4, c5, c6].length = 7) := hide rfl
      have HRx : Hid (∀ W : World, Below w.heap.size w W → ExR d W X [c0, c1, c2, c3, c4, c5, c6] Fk) := hide fun W hW => (ExR.good d).below hR hW HlF.out
      have Hslx := hide (Hsl2.out X (List.mem_of_getElem? hX))
      have hj0 : (0 : Int) ≤ (j : Int) := by omega
      have hj1 : (j : Int) < (l.length : Int) := by omega
      have hbase : w.heap.size + 2 ≤ wr.heap.size := Nat.le_trans hn0 hBr.size
      have htl : (l.take j).length = j := by rw [List.length_take]; omega
      clear hX hcat hFk hbF hcl hR
      have Hwr : Hid (Below wr.heap.size wr wr) := hide (Below.refl _ _)
      have hwv := hBr
      go_wp2_with (refine wpList_load_at 52 (.tmp 17) rfl Try.underlying52 rfl Hi.out rfl rfl Hn.out Hc.out ?_)
      refine Calls.mono (HE.out X _ Fk wr (HRx.out wr (Hw.out wr hwv)) Hslx.out) ?_
      rintro en w2 ⟨us, F2, rfl, hR2, hf2, hb2⟩
      have H12 := hide (ExR.one hR2)
      obtain ⟨u0, u1, u2, u3, u4, u5, u6, rfl⟩ := list7 ((ExR.good d).len hR2)
      have Hb2 : Hid (Below wr.heap.size wr w2) := hide (Hwr.out.trans (hb2.mono Hwr.out.size))
      have Hf2 : Hid (Fresh wr.heap.size w2 F2) := hide (hf2.mono Hwr.out.size)
      have HR2 := hide hR2
      clear hR2 hf2 hb2
      go_wp2_with (at_builtin; refine app_ownS rfl (.tmp 13) (.tmp 20) 50 52 rfl Try.underlying50 infoEx rfl (by decide) (ExR.good d) wr w2 (w.heap.size + 2) _ (l.take j) F' Ho.out rfl Hb2.out X [u0, u1, u2, u3, u4, u5, u6] F2 HR2.out Hf2.out H12.out rfl (by omega) (by omega) hbase ?_; intro v1 w1 hown hbl)
      have Hown := hide hown
      have Hbl := hide hbl
      clear hown hbl
      go_wp2_with fail
      go_roundw
      case rel => exact ⟨j + 1, F' ++ F2, by omega, by go_num, hide (by rw [take_snoc HX.out]; exact Hown.out), hide (Hb.out.trans Hbl.out)⟩
      case measure => simp [intOf]; omega
    · have hjl : j = l.length := by omega
      subst hjl
      have ho2 := Ho.out
      rw [List.take_length] at ho2
      have Ho2 := hide ho2
      clear ho2
      obtain ⟨A2, cap2, rfl, _, _⟩ := Ho2.out.form
      have HBr := hide (HBx.out wr hBr)
      have H1o : Hid (∀ v ∈ ([.slice A2 l.length cap2] : List Value), v.oneCell' = true) := hide (by simp [Value.oneCell'])
      go_wp2_with (refine wpList_store_any 50 (.tmp 23) (.tmp 22) rfl (cs := [.slice A2 l.length cap2]) rfl Hi1.out rfl rfl rfl rfl H1o.out HBr.out (by simp) ?_; intro W1 hP; have HP := hide hP; clear hP; refine hold ?_)
      have HCx : Hid (CellsAt W1 w.heap.size 0 [.int .i64 k, .int .i64 n, .int .i64 p, .int .i64 t, .string s, .string m, .slice A2 l.length cap2]) := hide fun q u hu => by
        have h6 := HP.out.cellsAt
        have h0 := HP.out.keeps HBr.out (o' := 0) (us := [.int .i64 k, .int .i64 n, .int .i64 p, .int .i64 t, .string s, .string m]) (fun q u hu => (HC0.out wr hBr) q u (by
          have := (List.getElem?_eq_some_iff.1 hu).1
          rcases q with _ | _ | _ | _ | _ | _ | q <;> first | exact hu | (simp at this; omega))) (.inl (by simp))
        rcases q with _ | _ | _ | _ | _ | _ | _ | q
        · exact h0 0 u hu
        · exact h0 1 u hu
        · exact h0 2 u hu
        · exact h0 3 u hu
        · exact h0 4 u hu
        · exact h0 5 u hu
        · exact h6 0 u hu
        · simp at hu
      have HZ : Hid (W1.heap[w.heap.size + 1]? = some (.cells #[.int .i64 0, .int .i64 0, .int .i64 0, .int .i64 0, .string ⟨#[]⟩, .string ⟨#[]⟩, .slice none 0 0] 52 (0, 0))) := hide ((HP.out.far _ (by omega)).trans (HR0.out wr hBr))
      have HnO : Hid (([.int .i64 k, .int .i64 n, .int .i64 p, .int .i64 t, .string s, .string m, .slice A2 l.length cap2] : List Value).length = 7) := hide rfl
      have H1O : Hid (∀ v ∈ ([.int .i64 k, .int .i64 n, .int .i64 p, .int .i64 t, .string s, .string m, .slice A2 l.length cap2] : List Value), v.oneCell' = true) := hide (by simp [Value.oneCell'])
      refine Hold.go ?_
      go_wp2_with (first
        | refine wpList_load_at 52 (.tmp 1) rfl Try.underlying52 rfl Hi.out rfl rfl HnO.out HCx.out ?_
        | (refine wpList_store_at 52 (.tmp 2) (.tmp 24) rfl Hi.out rfl rfl rfl HnO.out H1O.out HZ.out (by decide) ?_; intro WF hQ; have HQ := hide hQ; clear hQ))
      obtain ⟨G, hG, hGf⟩ := Ho2.out.slr (ExR.good d)
      have hfar := far2 HP.out HQ.out (show w.heap.size < w.heap.size + 2 by omega) (show w.heap.size + 1 < w.heap.size + 2 by omega) hGf.from_
      have hzz : wr.heap.size ≤ WF.heap.size := by rw [HQ.out.size, HP.out.size]; exact Nat.le_refl _
      have hW : Below w.heap.size w WF := ((Hw.out wr hBr).trans (HP.out.below (Nat.le_refl _))).trans (HQ.out.below (by omega))
      obtain ⟨x0, x1, x2, x3, x4, x5, x6⟩ := HQ.out.cellsAt.seven0
      exact bodyPost_ret (v := .agg #[.int .i64 k, .int .i64 n, .int .i64 p, .int .i64 t, .string s, .string m, .slice A2 l.length cap2]) (by simp [results, Try.results78, go_sem, x0, x1, x2, x3, x4, x5, x6]) rfl
        ⟨[.int .i64 k, .int .i64 n, .int .i64 p, .int .i64 t, .string s, .string m, .slice A2 l.length cap2], G, rfl, ⟨_, rfl, Hok.out, hG.frame (ExR.good d) hfar hzz⟩, (hGf.keep hfar).mono (by omega), hW⟩
theorem s_l4CopyD : ∀ d, CpE_s d
  | 0 => fun _ _ _ _ h _ => h.elim
  | d + 1 => s_l4Copy_step (s_l4CopyD d)
theorem s_l4Copy (D : Nat) (x : Ex) (cs : List Value) (F : List Nat) (w : World) (h : ExR D w x cs F) (hbk : bulkE D x ≤ 1048576) :
    Calls Try.prog 78 #[.agg cs.toArray] w fun en w' => ∃ us F', en = .returned (.agg (List.toArray us)) ∧ ExR D w' x us F' ∧ Fresh w.heap.size w' F' ∧ Below w.heap.size w w' := s_l4CopyD D x cs F w h (slim_of_bulk hbk)
end Go.Proofs.Ytaihdnlpdibkoaa
