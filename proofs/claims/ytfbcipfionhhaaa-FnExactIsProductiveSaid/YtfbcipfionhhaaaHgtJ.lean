/- Heights: all rounds: the program's. Conditions: the grammar has at most the size 2^20. -/
import Derived.Test.YtfbcipfionhhaaaHgtI
import Derived.Test.YtfbcipfionhhaaaHgtV
import Derived.Laws.CopyOwn
namespace Go.Proofs.Ytfbcipfionhhaaa
set_option maxRecDepth 100000
open Go.RowKit Go.WideShapes
set_option linter.unusedVariables false

theorem gb_refl (w : World) (b : Option Nat) : w.grownBy w b := ⟨rfl, rfl, rfl, Nat.le_refl _, fun _ _ _ => rfl⟩
theorem gb_below {w w1 w2 : World} {b : Nat} (h : w.grownBy w1 (some b)) (hg : Below w1.heap.size w1 w2) : w.grownBy w2 (some b) :=
  ⟨hg.os.trans h.os, hg.tape.trans h.tape, hg.output.trans h.output, Nat.le_trans h.size hg.size, fun k hk hne => (hg.block k (Nat.lt_of_lt_of_le hk h.size)).trans (h.block k hk hne)⟩
theorem gb_put {w w1 w2 : World} {b o : Nat} {vs : List Value} {cs : Array Value} {t : TypeId} (h : w.grownBy w1 (some b)) (hP : Put w1 b o vs cs t w2) : w.grownBy w2 (some b) :=
  ⟨hP.os.trans h.os, hP.tape.trans h.tape, hP.output.trans h.output, by rw [hP.size]; exact h.size, fun k hk hne => (hP.far k (fun e => hne (by rw [e]))).trans (h.block k hk hne)⟩
theorem gb_cell {w w1 : World} {b : Nat} (h : w.grownBy w1 (some b)) {p : Addr} {v : Value} (hc : w.cell? p = some v) (hne : p.block ≠ b) : w1.cell? p = some v :=
  (World.cell?_of_block (h.block p.block (cell_lt hc) (fun e => hne (by injection e with e; try exact e.symm)))).trans hc
theorem gb_blk {w w1 : World} {b k : Nat} (h : w.grownBy w1 (some b)) {o : Obj} (hk : w.heap[k]? = some o) (hne : k ≠ b) : w1.heap[k]? = some o :=
  (h.block k (Array.getElem?_eq_some_iff.1 hk).1 (fun e => hne (by injection e with e; try exact e.symm))).trans hk
theorem gb_down {w w1 : World} {b B : Nat} (h : w.grownBy w1 (some b)) (hB : B ≤ b) (hw : B ≤ w.heap.size) : Below B w w1 :=
  ⟨h.os, h.tape, h.output, h.size, fun k hk => h.block k (by omega) (fun e => by injection e; omega)⟩
theorem set_id {l : List Nat} {j v : Nat} (h : l[j]? = some v) : l.set j v = l := by
  apply List.ext_getElem?
  intro i
  rw [List.getElem?_set]
  split
  · rename_i he
    subst he
    rw [h]
    simp [(List.getElem?_eq_some_iff.1 h).1]
  · rfl
theorem HRow.splice {g n : Nat} {w : World} {cur : List Value} {h : List Nat} (hc : w.heap[g]? = some (.cells (splice cur 0 (h.map enc)).toArray 3 (0, 0))) (hl : h.length = n) (hz : cur.length = n) (hn : n ≤ maxLen) :
    HRow g w (.slice (some ⟨g, 0, none⟩) n n) h := by
  subst hl
  have e : Go.splice cur 0 (h.map enc) = h.map enc := by
    unfold Go.splice
    rw [List.take_zero, List.nil_append, List.length_map, Nat.zero_add, List.drop_of_length_le (Nat.le_of_eq hz), List.append_nil]
  rw [e] at hc
  exact ⟨by simp, .inr ⟨g, h.length, (h.map enc).toArray, rfl, Nat.le_refl _, hc, Nat.le_refl _, hn, by simp, by rw [Nat.mul_one]; exact List.take_of_length_le (by simp)⟩⟩
theorem HRow.keep {B g n c : Nat} {w w' : World} {h : List Nat} (hr : HRow B w (.slice (some ⟨g, 0, none⟩) n c) h) (hk : w'.heap[g]? = w.heap[g]?) : HRow B w' (.slice (some ⟨g, 0, none⟩) n c) h := by
  obtain ⟨h1, h2⟩ := hr
  rcases h2 with ⟨h2, _⟩ | ⟨g', cap, cur, e, h4, h5, h6⟩
  · cases h2
  · have e2 := e
    injection e with e _ _
    injection e with e
    injection e with e _ _
    subst e
    exact ⟨h1, .inr ⟨g, cap, cur, e2, h4, hk.trans h5, h6⟩⟩
theorem one_row {cs : Array Value} {v : Value} (hz : cs.size = 1) (h0 : cs[0]? = some v) : cs = #[v] := by
  apply Array.ext_getElem?
  intro i
  cases i with
  | zero => rw [h0]; rfl
  | succ i => rw [Array.getElem?_eq_none (by omega), Array.getElem?_eq_none (by simp)]
theorem add_at (g j : Nat) : (⟨g, 0, none⟩ : Addr).add j = ⟨g, j, none⟩ := by
  unfold Addr.add
  split
  · rename_i h0; subst h0; rfl
  · simp
set_option maxRecDepth 100000 in
set_option maxHeartbeats 8000000 in
theorem i_heights (D : Nat) (x : Grm) (cs : List Value) (F : List Nat) (w : World) (h : GrmR D w x cs F) (hbk : x.symbols.length ≤ 1048576) :
    Calls Try.prog 63 #[.agg cs.toArray] w fun en w' => ∃ A c, en = .returned (.slice A x.symbols.length c) ∧ Rd w' w'.heap.size A x.symbols.length ((hts x x.symbols.length).map enc) ∧ Below w.heap.size w w' := by
  obtain ⟨p0, p1, rfl⟩ := list2 ((GrmR.good D).len h)
  obtain ⟨v0, F0, v1, F1, _, ⟨h0, g0⟩, ⟨h1, g1⟩, rfl⟩ := h
  obtain rfl := Option.some.inj h0
  obtain rfl := Option.some.inj h1
  obtain ⟨A0, k0, rfl, hc0, hm0⟩ := g0.form
  obtain ⟨A1, k1, rfl, hc1, hm1⟩ := g1.form
  unfold maxLen at hm0 hm1
  have L := hide (g0.lt (SymR.good D))
  have Hs := hide g0
  have L1 := hide (g1.lt (RulR.good D))
  have Hs1 := hide g1
  have hrl : x.rules.length ≤ 9223372036854775807 := by omega
  obtain ⟨i0, hii, hz0i, hz1i, hz2i⟩ := info_parts infoInt
  have Hii := hide hii
  have Hz0 := hide hz0i
  have Hz1 := hide hz1i
  have Hmake : Hid (i0.bytes * x.symbols.length ≤ 281474976710656) := hide (by rw [hz2i]; omega)
  have Hmax : Hid (x.symbols.length ≤ maxLen) := hide (by unfold maxLen; omega)
  have Hi3 : Hid ((Try.prog.info? 3).map (·.size) = some 1) := hide (by kernel_rfl)
  have Hi90 : Hid ((Try.prog.info? 90).map (·.size) = some 1) := hide (by kernel_rfl)
  have Hi2 : Hid ((Try.prog.info? 94).map (·.size) = some 2) := hide (by kernel_rfl)
  have Hi6 : Hid ((Try.prog.info? 46).map (·.size) = some 6) := hide (by kernel_rfl)
  obtain ⟨C0, hz0, hw0⟩ := boxes1 w [.slice A0 x.symbols.length k0, .slice A1 x.rules.length k1] 52
  have Hbk := hide hbk
  show Calls _ _ #[.agg #[.slice A0 x.symbols.length k0, .slice A1 x.rules.length k1]] w _
  clear g0 g1 h0 h1 hc0 hc1 hm0 hm1 hii hz0i hz1i hz2i
  go_enter Try.func63, Try.ntmps63
  go_wp2_with (at_make; refine hold ?_)
  generalize w.alloc (Obj.cells #[.slice A0 x.symbols.length k0, .slice A1 x.rules.length k1] 52) = W0 at C0 hz0 hw0 ⊢
  have hn0 : w.heap.size + 1 ≤ W0.heap.size := by omega
  have Hw : Hid (∀ W : World, Below (w.heap.size + 1) W0 W → Below w.heap.size w W) := hide fun W h => hw0.trans (h.mono (by omega))
  have hB0 : Below (w.heap.size + 1) W0 W0 := Below.refl _ _
  have e0 := cell_rule C0 (n := w.heap.size + 1) (by omega) 0 rfl
  have e1 := cell_rule C0 (n := w.heap.size + 1) (by omega) 1 rfl
  clear C0 hw0
  have Hn0 := hide hn0
  refine Hold.go ?_
  refine wpList_make_full _ rfl (.tmp 16) (.tmp 16) 90 rfl (w.heap.size + 1) 3 i0 (.int .i64 0) 1 Try.underlying90 Hii.out Hz0.out Hz1.out .i64 .i64 _ _ x.symbols.length rfl rfl rfl rfl Hmake.out Hmax.out Hn0.out ?_
  intro V hrow hgr
  have Hrow := hide (HRow.made hrow)
  have HV := hide ((Below.refl (w.heap.size + 1) W0).grown hgr hn0 (fun k hk => by cases hk))
  have hVs : W0.heap.size < V.heap.size := (hrow.lt W0.heap.size rfl).2
  clear hrow hgr
  have Hrow1 := hide (Hrow.out.below ((Below.refl V.heap.size V).alloc (Nat.le_refl _) (Obj.cells #[.slice (some ⟨W0.heap.size, 0, none⟩) x.symbols.length x.symbols.length] 90)))
  have hblk := heap_alloc_new V (Obj.cells #[.slice (some ⟨W0.heap.size, 0, none⟩) x.symbols.length x.symbols.length] 90)
  have HV1 := hide (HV.out.alloc (by omega) (Obj.cells #[.slice (some ⟨W0.heap.size, 0, none⟩) x.symbols.length x.symbols.length] 90))
  rw [hz0] at Hrow1 hblk HV1 hVs
  have Hblk := hide hblk
  clear hblk
  go_wp2_with fail
  generalize V.alloc (Obj.cells #[.slice (some ⟨w.heap.size + 1, 0, none⟩) x.symbols.length x.symbols.length] 90) = W1 at Hrow1 Hblk HV1 ⊢
  generalize hob : V.heap.size = ob at Hblk hVs ⊢
  clear Hrow HV hob
  have Hlen := hide (hts_len x)
  go_loopw [5] (fun i wr => ∃ r g : Nat, 1 ≤ r ∧ r ≤ x.symbols.length + 1 ∧ i = .int .i64 r ∧ g ≠ ob ∧ Hid (HRow (w.heap.size + 1) wr (.slice (some ⟨g, 0, none⟩) x.symbols.length x.symbols.length) (hts x (r - 1))) ∧
    Hid (wr.heap[ob]? = some (.cells #[.slice (some ⟨g, 0, none⟩) x.symbols.length x.symbols.length] 90 (0, 0))) ∧ Hid (Below (w.heap.size + 1) W0 wr)) (fun i _ => x.symbols.length + 1 - (intOf i).toNat)
  case atStart => exact ⟨1, w.heap.size + 1, by omega, by omega, rfl, by omega, hide (show HRow _ _ _ (hts x 0) from Hrow1.out), Hblk, HV1⟩
  case round =>
    obtain ⟨r, g, hr1, hrn, rfl, hgo, Ho, Hob, Hb⟩ := hrel
    obtain ⟨wo, rfl⟩ : ∃ wo, wo = wr := ⟨_, rfl⟩
    have hBr := Hb.out
    have hoc : wo.cell? ⟨ob, 0, none⟩ = some (.slice (some ⟨g, 0, none⟩) x.symbols.length x.symbols.length) := cell_of_row _ _ 0 _ _ _ Hob.out
    have hobs : ob < wo.heap.size := cell_lt hoc
    by_cases hlt : r ≤ x.symbols.length
    · have hhl := Hlen.out (r - 1)
      have Hstep : Hid (hts x r = stepH x r (hts x (r - 1))) := hide (by obtain ⟨q, rfl⟩ : ∃ q, r = q + 1 := ⟨r - 1, by omega⟩; rfl)
      generalize hts x (r - 1) = hh at hhl Ho Hstep
      have Hcl := hide (HRow.cells Ho.out)
      have hgs : g < wo.heap.size := cell_lt (HRow.cells Ho.out 0 _ (List.getElem?_eq_getElem (by omega)))
      have Hhl := hide hhl
      have hbase : w.heap.size + 1 ≤ wo.heap.size := Nat.le_trans hn0 hBr.size
      have Hbase := hide (Nat.le_refl wo.heap.size)
      go_wp2_with (at_make; refine wpList_make_full _ rfl (.tmp 27) (.tmp 27) 90 rfl wo.heap.size 3 i0 (.int .i64 0) 1 Try.underlying90 Hii.out Hz0.out Hz1.out .i64 .i64 _ _ x.symbols.length rfl rfl rfl rfl Hmake.out Hmax.out Hbase.out ?_; refine hold ?_)
      refine Hold.go ?_
      intro w1 hrow hgr
      have Hrow2 := hide (HRow.made (n := x.symbols.length) (by rw [Nat.mul_one]; exact hrow))
      have hb1 := (Below.refl wo.heap.size wo).grown hgr (Nat.le_refl _) (fun k hk => by cases hk)
      have Hb1 := hide hb1
      obtain ⟨cur, hcur, hcz, hcf⟩ := HRow.blk Hrow2.out (by simp) (by omega)
      have Hcur : Hid (w1.heap[wo.heap.size]? = some (.cells cur.toList.toArray 3 (0, 0))) := hide (by simpa using hcur)
      have Hcn : Hid ((hh.map enc).length = Nat.min x.symbols.length x.symbols.length) := hide (by rw [List.length_map, Hhl.out]; exact (Nat.min_self _).symm)
      have Hpos : Hid (0 < (hh.map enc).length → (some ⟨wo.heap.size, 0, none⟩ : Option Addr) = some ⟨wo.heap.size, 0, none⟩ ∧ ∃ ad : Addr, (some ⟨g, 0, none⟩ : Option Addr) = some ad ∧ ∀ j v, (hh.map enc)[j]? = some v → w1.cell? (ad.add j) = some v) := hide fun _ => ⟨rfl, ⟨g, 0, none⟩, rfl, fun j u hu => by
        rw [add_at]
        rw [List.getElem?_map] at hu
        cases hv : hh[j]? with
        | none => rw [hv] at hu; cases hu
        | some v => rw [hv] at hu; obtain rfl := Option.some.inj hu; exact (Hb1.out.cell (p := ⟨g, j, none⟩) hgs).trans (Hcl.out j v hv)⟩
      have Hfit : Hid (0 + (hh.map enc).length ≤ cur.toList.length) := hide (by have h1 := Hhl.out; have h2 : cur.toList.length = cur.size := Array.length_toList; rw [List.length_map]; omega)
      have Hone : Hid (∀ v ∈ hh.map enc, v.oneCell' = true) := hide (fun u hu => by obtain ⟨k, _, rfl⟩ := List.mem_map.1 hu; rfl)
      have hoc1 : w1.cell? ⟨ob, 0, none⟩ = some (.slice (some ⟨g, 0, none⟩) x.symbols.length x.symbols.length) := (hb1.cell (p := ⟨ob, 0, none⟩) hobs).trans hoc
      have Hcz : Hid (cur.toList.length = x.symbols.length) := hide (by have h2 : cur.toList.length = cur.size := Array.length_toList; omega)
      clear hrow hgr hcur hcz hcf hb1
      go_wp2_with (refine wpList_copy_splice rfl (.tmp 29) (.tmp 30) 90 90 rfl 3 Try.underlying90 Hi3.out _ _ _ _ _ _ rfl rfl wo.heap.size 0 cur.toList 3 Hcur.out (hh.map enc) Hcn.out Hpos.out Hfit.out Hone.out wo.heap.size wo Hb1.out (Nat.le_refl _) ?_; refine hold ?_)
      refine Hold.go ?_
      intro w2 HG hB2
      have Hm0 : Hid (HRow wo.heap.size w2 (.slice (some ⟨wo.heap.size, 0, none⟩) x.symbols.length x.symbols.length) (midH x r hh 0)) := hide (by rw [midH_zero]; exact HRow.splice HG.out Hhl.out Hcz.out Hmax.out)
      have HB2 := hide hB2
      have Hobw := hide (Hob.out)
      clear Hrow2 Hcur Hcn Hpos Hfit Hone hoc1 Hcz HG hB2 Hb1
      have hW2 : Below (w.heap.size + 1) W0 w2 := hBr.trans (HB2.out.mono hbase)
      go_wp2_with fail
      go_loopw [35] (fun i wr => ∃ j : Nat, j ≤ x.symbols.length ∧ i = .int .i64 j ∧ Hid (HRow wo.heap.size wr (.slice (some ⟨wo.heap.size, 0, none⟩) x.symbols.length x.symbols.length) (midH x r hh j)) ∧ Hid (Below wo.heap.size wo wr)) (fun i _ => x.symbols.length - (intOf i).toNat)
      case atStart => exact ⟨0, by omega, rfl, Hm0, HB2⟩
      case round =>
        obtain ⟨j, hj, rfl, Hm, Hb2⟩ := hrel
        obtain ⟨ws, rfl⟩ : ∃ ws, ws = wr := ⟨_, rfl⟩
        have hb2 := Hb2.out
        have hW3 : Below (w.heap.size + 1) W0 ws := hBr.trans (hb2.mono hbase)
        have Hww : Hid (Below w.heap.size w ws) := hide (Hw.out _ hW3)
        have hs0 : w.heap.size + 1 ≤ ws.heap.size := Nat.le_trans hn0 hW3.size
        by_cases hlj : j < x.symbols.length
        · have hX : x.symbols[j]? = some x.symbols[j] := List.getElem?_eq_getElem hlj
          generalize x.symbols[j] = X at hX
          obtain ⟨b, off, cs, Fk, hA, _, hbF, hFk, hcl, hcat, hR⟩ := SlR.get (SymR.good D) Hs.out hX
          subst hA
          have H1 := hide (SymR.one hR)
          obtain ⟨c0, c1, rfl⟩ := list2 hcl
          have hc0 : c0 = .string X.name := Option.some.inj (by simpa using h_symName hR)
          subst hc0
          have HX := hide hX
          have Hc : Hid (CellsAt ws b (off + j * 2) [.string X.name, c1]) := hide (hcat.below Hww.out (L.out b hbF))
          have Hn : Hid ([.string X.name, c1].length = 2) := hide rfl
          have hv : hh[j]? = some hh[j] := List.getElem?_eq_getElem (by have := Hhl.out; omega)
          generalize hh[j] = v at hv
          have HV2 := hide hv
          have hj0 : (0 : Int) ≤ (j : Int) := by omega
          have hj1 : (j : Int) < (x.symbols.length : Int) := by omega
          clear hX hcat hFk hbF hcl hR
          go_wp2_with (first
            | refine wpList_load_at 94 (.tmp 38) rfl Try.underlying94 rfl Hi2.out rfl rfl Hn.out Hc.out ?_
            | (refine wpList_store_new 94 (.tmp 8) (.tmp 39) rfl Hi2.out rfl rfl rfl rfl Hn.out H1.out rfl ?_; refine hold ?_))
          have C := CellsAt.new ws [.string X.name, c1] 94
          have hz := World.size_alloc ws (Obj.cells #[.string X.name, c1] 94)
          have hws : Below ws.heap.size ws (ws.alloc (Obj.cells #[.string X.name, c1] 94)) := (Below.refl _ _).alloc (Nat.le_refl _) _
          generalize ws.alloc (Obj.cells #[.string X.name, c1] 94) = V2 at C hz hws ⊢
          have hVo : Below wo.heap.size wo V2 := hb2.trans (hws.mono hb2.size)
          have hW4 : Below (w.heap.size + 1) W0 V2 := hBr.trans (hVo.mono hbase)
          have HmV := hide (Hm.out.below hws)
          have hkb : wo.heap.size < ws.heap.size := by
            obtain ⟨cur, hcur, _⟩ := HRow.blk Hm.out (midH_len x r hh Hhl.out j) (by omega)
            exact (Array.getElem?_eq_some_iff.1 hcur).1
          have hcs : V2.cell? ⟨ws.heap.size, 0, none⟩ = some (.string X.name) := C 0 _ rfl
          have hcg : V2.cell? ⟨g, j, none⟩ = some (.int .i64 (v : Int)) := (hVo.cell (p := ⟨g, j, none⟩) hgs).trans (Hcl.out j v hv)
          have hco : V2.cell? ⟨ob, 0, none⟩ = some (.slice (some ⟨g, 0, none⟩) x.symbols.length x.symbols.length) := (hVo.cell (p := ⟨ob, 0, none⟩) hobs).trans hoc
          have HVo := hide hVo
          have HW4 := hide hW4
          have hV2s := hVo.size
          have hV2z : w.heap.size + 1 ≤ V2.heap.size := by omega
          have hgb0 := gb_refl V2 (some wo.heap.size)
          generalize ws.heap.size = kb at hcs hkb hz ⊢
          refine Hold.go ?_
          clear C hws hVo hv
          by_cases hv0 : v = 0
          · subst hv0
            have Hset0 : Hid ((midH x r hh j).set j (partH x hh r X.name 0) = midH x r hh j) := hide (by rw [partH_zero]; exact set_id (midH_at HV2.out Hhl.out))
            have Hset1 : Hid ((midH x r hh j).set j (partH x hh r X.name x.rules.length) = midH x r hh (j + 1)) := hide (by rw [midH_set HX.out HV2.out Hhl.out, partH_all])
            have hml := midH_len x r hh Hhl.out j
            generalize midH x r hh j = mh at hml HmV Hset0 Hset1
            have Hml := hide hml
            go_wp2_with fail
            go_loopw [48] (fun i wr => ∃ m : Nat, m ≤ x.rules.length ∧ i = .int .i64 m ∧ Hid (HRow wo.heap.size wr (.slice (some ⟨wo.heap.size, 0, none⟩) x.symbols.length x.symbols.length) (mh.set j (partH x hh r X.name m))) ∧ Hid (V2.grownBy wr (some wo.heap.size))) (fun i _ => x.rules.length - (intOf i).toNat)
            case atStart => exact ⟨0, by omega, rfl, hide (by rw [Hset0.out]; exact HmV.out), hide hgb0⟩
            case round =>
              obtain ⟨m, hm, rfl, Hp, Hg⟩ := hrel
              obtain ⟨wq, rfl⟩ : ∃ wq, wq = wr := ⟨_, rfl⟩
              have hgq := Hg.out
              have hWq : Below (w.heap.size + 1) W0 wq := HW4.out.trans (gb_down hgq hbase hV2z)
              have Hwq : Hid (Below w.heap.size w wq) := hide (Hw.out _ hWq)
              have ccs : wq.cell? ⟨kb, 0, none⟩ = some (.string X.name) := gb_cell hgq hcs (by show kb ≠ _; omega)
              have cco : wq.cell? ⟨ob, 0, none⟩ = some (.slice (some ⟨g, 0, none⟩) x.symbols.length x.symbols.length) := gb_cell hgq hco (by show ob ≠ _; omega)
              have hqz := hgq.size
              by_cases hlm : m < x.rules.length
              · have hY : x.rules[m]? = some x.rules[m] := List.getElem?_eq_getElem hlm
                generalize x.rules[m] = Y at hY
                obtain ⟨b1, off1, cs1, Fk1, hA1, _, hbF1, hFk1, hcl1, hcat1, hR1⟩ := SlR.get (RulR.good D) Hs1.out hY
                subst hA1
                have H16 := hide (RulR.one hR1)
                obtain ⟨d0, d1, d2, d3, d4, d5, rfl⟩ := list_6 hcl1
                obtain ⟨rfl, A2, k2, rfl, hrd, hrl2⟩ := h_rule hR1
                have HY := hide hY
                have Hc6 : Hid (CellsAt wq b1 (off1 + m * 6) [d0, .string Y.left, .slice A2 Y.right.length k2, d3, d4, d5]) := hide (hcat1.below Hwq.out (L1.out b1 hbF1))
                have Hn6 : Hid ([d0, .string Y.left, .slice A2 Y.right.length k2, d3, d4, d5].length = 6) := hide rfl
                have Hrd := hide hrd
                have hm0 : (0 : Int) ≤ (m : Int) := by omega
                have hm1 : (m : Int) < (x.rules.length : Int) := by omega
                clear hY hcat1 hFk1 hbF1 hcl1 hR1 hrd
                go_wp2_with (first
                  | refine wpList_load_at 46 (.tmp 50) rfl Try.underlying46 rfl Hi6.out rfl rfl Hn6.out Hc6.out ?_
                  | (refine wpList_store_new 46 (.tmp 10) (.tmp 51) rfl Hi6.out rfl rfl rfl rfl Hn6.out H16.out rfl ?_; refine hold ?_))
                have C := CellsAt.new wq [d0, .string Y.left, .slice A2 Y.right.length k2, d3, d4, d5] 46
                have hz6 := World.size_alloc wq (Obj.cells #[d0, .string Y.left, .slice A2 Y.right.length k2, d3, d4, d5] 46)
                have hq3 : Below wq.heap.size wq (wq.alloc (Obj.cells #[d0, .string Y.left, .slice A2 Y.right.length k2, d3, d4, d5] 46)) := (Below.refl _ _).alloc (Nat.le_refl _) _
                generalize wq.alloc (Obj.cells #[d0, .string Y.left, .slice A2 Y.right.length k2, d3, d4, d5] 46) = V3 at C hz6 hq3 ⊢
                have f1 := cell_rule C (n := V3.heap.size) (by omega) 1 rfl
                have f2 := cell_rule C (n := V3.heap.size) (by omega) 2 rfl
                have hVV : Below V3.heap.size V3 V3 := Below.refl _ _
                have f3 : ∀ W : World, Below V3.heap.size V3 W → W.cell? ⟨kb, 0, none⟩ = some (.string X.name) := fun W h => ((hq3.trans (h.mono hq3.size)).cell (p := ⟨kb, 0, none⟩) (cell_lt ccs)).trans ccs
                have Hco3 : Hid (∀ W : World, Below V3.heap.size V3 W → W.cell? ⟨ob, 0, none⟩ = some (.slice (some ⟨g, 0, none⟩) x.symbols.length x.symbols.length)) := hide fun W h => ((hq3.trans (h.mono hq3.size)).cell (p := ⟨ob, 0, none⟩) (cell_lt cco)).trans cco
                have Hq3 := hide hq3
                have hW5 : Below (w.heap.size + 1) W0 V3 := hWq.trans (hq3.mono (by omega))
                have hV3z : w.heap.size + 1 ≤ V3.heap.size := by omega
                generalize wq.heap.size = kr at f1 f2 ⊢
                refine Hold.go ?_
                clear C hz6 hq3 ccs cco
                go_wp2_with fail
                go_loopw [11, 60] (fun al i wr => ∃ q : Nat, q ≤ Y.right.length ∧ i = .int .i64 q ∧ al = .bool ((Y.left.toList == X.name.toList) && (Y.right.take q).all (childOk x hh)) ∧ Hid (Below V3.heap.size V3 wr)) (fun _ i _ => Y.right.length - (intOf i).toNat)
                case atStart => exact ⟨0, by omega, rfl, by simp, hide hVV⟩
                case round =>
                  obtain ⟨q, hq, rfl, rfl, Hb3⟩ := hrel
                  have hb3 := Hb3.out
                  have hW6 : Below (w.heap.size + 1) W0 wr := hW5.trans (hb3.mono hV3z)
                  have Hw6 : Hid (Below w.heap.size w wr) := hide (Hw.out _ hW6)
                  by_cases hlq : q < Y.right.length
                  · obtain ⟨b2, off2, ch, rfl, hb2l, hch, hcc⟩ := (Hrd.out.below Hw6.out).get hlq
                    have hall := all_snoc' (g := x) (h := hh) hch
                    generalize (Y.left.toList == X.name.toList) = lq at hall ⊢
                    have hgd : (lq && (Y.right.take (q + 1)).all (childOk x hh)) = ((lq && (Y.right.take q).all (childOk x hh)) && childOk x hh ch) := by rw [hall, Bool.and_assoc]
                    have Hgd := hide hgd
                    clear hgd hall hch
                    generalize (lq && (Y.right.take q).all (childOk x hh)) = gd at Hgd ⊢
                    have hq0 : (0 : Int) ≤ (q : Int) := by omega
                    have hq1 : (q : Int) < (Y.right.length : Int) := by omega
                    have Hrow6 : Hid (Rd wr wr.heap.size (some ⟨g, 0, none⟩) x.symbols.length (hh.map enc)) := hide (by
                      have h2 := HRow.rd (Ho.out.below (HVo.out.trans ((gb_down hgq (Nat.le_refl _) hV2s).trans ((Hq3.out.mono (Nat.le_trans hV2s hqz)).trans (Hb3.out.mono (by have := Hq3.out.size; omega))))))
                      rw [Hhl.out] at h2
                      exact h2)
                    cases gd
                    · have Hk2 : Hid ((lq && (Y.right.take (q + 1)).all (childOk x hh)) = false) := hide (by rw [Hgd.out, Bool.false_and])
                      go_wp2_with fail
                      go_roundw
                      case rel => exact ⟨q + 1, by omega, by go_num, by rw [Hk2.out], Hb3⟩
                      case measure => simp [intOf]; omega
                    · have Hk2 : Hid ((lq && (Y.right.take (q + 1)).all (childOk x hh)) = decide (0 < hOf x hh ch)) := hide (by rw [Hgd.out, Bool.true_and]; rfl)
                      go_wp2_with fail
                      refine Calls.mono (i_height D x _ k0 F0 wr (SlR.below (SymR.good D) Hs.out Hw6.out L.out) w.heap.size (e0 _ hW6) ch ob _ _ (Hco3.out _ Hb3.out) hh Hrow6.out) ?_
                      rintro en w7 ⟨rfl, hb7⟩
                      have HB7 := hide (Hb3.out.trans (hb7.mono Hb3.out.size))
                      clear hb7
                      by_cases hv0 : 0 < hOf x hh ch
                      · have hv1 : (0 : Int) < (hOf x hh ch : Int) := by omega
                        have Hk3 : Hid (decide (0 < hOf x hh ch) = true) := hide (decide_eq_true hv0)
                        clear hv0
                        go_wp2_with fail
                        go_roundw
                        case rel => exact ⟨q + 1, by omega, by go_num, by rw [Hk2.out, Hk3.out], HB7⟩
                        case measure => simp [intOf]; omega
                      · have hv1 : ¬ (0 : Int) < (hOf x hh ch : Int) := by omega
                        have Hk3 : Hid (decide (0 < hOf x hh ch) = false) := hide (decide_eq_false hv0)
                        clear hv0
                        go_wp2_with fail
                        go_roundw
                        case rel => exact ⟨q + 1, by omega, by go_num, by rw [Hk2.out, Hk3.out], HB7⟩
                        case measure => simp [intOf]; omega
                  · have hql : q = Y.right.length := by omega
                    subst hql
                    have Hrk : Hid (((Y.left.toList == X.name.toList) && (Y.right.take Y.right.length).all (childOk x hh)) = rOk x hh X.name Y) := hide (by rw [List.take_length]; rfl)
                    rw [Hrk.out]
                    have Hpr := hide ((Hp.out.below Hq3.out).below Hb3.out)
                    have Hgr := hide (gb_below (gb_below hgq Hq3.out) Hb3.out)
                    cases hrk : rOk x hh X.name Y
                    · have Hms : Hid (partH x hh r X.name (m + 1) = partH x hh r X.name m) := hide (partH_miss HY.out hrk)
                      go_wp2_with fail
                      go_roundw
                      case rel => exact ⟨m + 1, by omega, by go_num, hide (by rw [Hms.out]; exact Hpr.out), Hgr⟩
                      case measure => simp [intOf]; omega
                    · have Hms : Hid ((mh.set j (partH x hh r X.name m)).set j r = mh.set j (partH x hh r X.name (m + 1))) := hide (by rw [partH_hit HY.out hrk, List.set_set])
                      have Hls : Hid ((mh.set j (partH x hh r X.name m)).length = x.symbols.length) := hide (by rw [List.length_set]; exact Hml.out)
                      obtain ⟨cur3, hc3, hz3, hf3⟩ := Hpr.out.blk Hls.out (by omega)
                      have Hc3 := hide hc3
                      have Hfit3 : Hid (j + 1 ≤ cur3.size) := hide (by omega)
                      clear hc3 hz3
                      go_wp2_with (refine wpList_store_any 3 (.tmp 76) (.tmp 75) rfl (cs := [enc r]) rfl Hi3.out (by simp [Region.wanted]) rfl rfl rfl (by simp [enc, Value.oneCell']) Hc3.out Hfit3.out ?_; intro w8 hP; have HP := hide hP; clear hP)
                      go_roundw
                      case rel => exact ⟨m + 1, by omega, by go_num, hide (by rw [← Hms.out]; exact Hpr.out.set' Hls.out (by omega) Hc3.out HP.out), hide (gb_put Hgr.out HP.out)⟩
                      case measure => simp [intOf]; omega
              · have hml2 : m = x.rules.length := by omega
                subst hml2
                have Hpe : Hid (HRow wo.heap.size wq (.slice (some ⟨wo.heap.size, 0, none⟩) x.symbols.length x.symbols.length) (midH x r hh (j + 1))) := hide (by rw [← Hset1.out]; exact Hp.out)
                have Hbe : Hid (Below wo.heap.size wo wq) := hide (HVo.out.trans (gb_down hgq (Nat.le_refl _) hV2s))
                go_wp2_with fail
                go_roundw
                case rel => exact ⟨j + 1, by omega, by go_num, Hpe, Hbe⟩
                case measure => simp [intOf]; omega
          · have Hkeep : Hid (midH x r hh (j + 1) = midH x r hh j) := hide (midH_keep HX.out HV2.out Hhl.out (newH_pos (by omega)))
            have hv1 : (0 : Int) < (v : Int) := by omega
            go_wp2_with fail
            go_roundw
            case rel => exact ⟨j + 1, by omega, by go_num, hide (by rw [Hkeep.out]; exact HmV.out), HVo⟩
            case measure => simp [intOf]; omega
        · have hjl : j = x.symbols.length := by omega
          subst hjl
          have Hfin : Hid (HRow (w.heap.size + 1) ws (.slice (some ⟨wo.heap.size, 0, none⟩) x.symbols.length x.symbols.length) (hts x r)) := hide (by
            have h := Hm.out
            rw [midH_all x r hh Hhl.out, ← Hstep.out] at h
            exact h.mono hbase)
          have Hbs : Hid (ws.heap[ob]? = some (.cells #[.slice (some ⟨g, 0, none⟩) x.symbols.length x.symbols.length] 90 (0, 0))) := hide ((hb2.block ob hobs).trans Hob.out)
          have Hone1 : Hid (∀ v ∈ ([.slice (some ⟨wo.heap.size, 0, none⟩) x.symbols.length x.symbols.length] : List Value), v.oneCell' = true) := hide (by simp [Value.oneCell'])
          have Hf90 : Hid (0 + 1 ≤ (#[Value.slice (some ⟨g, 0, none⟩) x.symbols.length x.symbols.length] : Array Value).size) := hide (by simp)
          go_wp2_with (refine wpList_store_any 90 (.tmp 3) (.tmp 79) rfl (cs := [.slice (some ⟨wo.heap.size, 0, none⟩) x.symbols.length x.symbols.length]) rfl Hi90.out (by simp [Region.wanted]) rfl rfl rfl Hone1.out Hbs.out Hf90.out ?_; intro w8 hP; have HP := hide hP; clear hP)
          have Hrow8 : Hid (HRow (w.heap.size + 1) w8 (.slice (some ⟨wo.heap.size, 0, none⟩) x.symbols.length x.symbols.length) (hts x r)) := hide (Hfin.out.keep (HP.out.far _ (by omega)))
          have Hob8 : Hid (w8.heap[ob]? = some (.cells #[.slice (some ⟨wo.heap.size, 0, none⟩) x.symbols.length x.symbols.length] 90 (0, 0))) := hide (by
            obtain ⟨cs', h1, h2, h3, h4⟩ := HP.out.blk
            have h5 := h4 0 _ rfl
            rw [h1, one_row h2 h5])
          go_roundw
          case rel => exact ⟨r + 1, wo.heap.size, by omega, by omega, by go_num, by omega, by rw [Nat.add_sub_cancel]; exact Hrow8, Hob8, hide (hW3.trans (HP.out.below (by omega)))⟩
          case measure => simp [intOf]; omega
    · obtain rfl : r = x.symbols.length + 1 := by omega
      rw [Nat.add_sub_cancel] at Ho
      go_wp2_with fail
      go_ret
      have h := Ho.out.rd
      rw [Hlen.out] at h
      exact ⟨_, _, rfl, h, Hw.out _ hBr⟩
end Go.Proofs.Ytfbcipfionhhaaa
