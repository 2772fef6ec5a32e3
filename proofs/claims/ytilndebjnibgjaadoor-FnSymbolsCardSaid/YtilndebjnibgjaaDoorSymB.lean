/- Symbols drawn and bent a little. Conditions: the bytes drawn from can be read. -/
import Derived.Test.YtilndebjnibgjaaDoorSymD
namespace Go.Proofs.YtilndebjnibgjaaDoor
set_option maxRecDepth 100000
open Go.RowKit Go.WideShapes Go.Lib
set_option linter.unusedVariables false

theorem s_pickAtS {b n g : Nat} {w : World} {T : TypeId} (hc : Cur w b) (hb : b < n) (zs : List ByteArray) (hg : New n w g (.cells (zs.map Value.string).toArray T (0, 0))) (h0 : 1 ≤ zs.length) (h1 : zs.length ≤ 256) (hz : zs.all (fun z => decide (z.size ≤ 32)) = true) :
    Calls Tryd.prog 34 #[.pointer (some ⟨b, 0, none⟩), .slice (some ⟨g, 0, none⟩) zs.length zs.length] w (DrawnS b w) := by
  have hr := Rd.blk hg.2
  rw [List.length_map] at hr
  exact s_l1Pick hc w.heap.size _ zs.length zs.length zs hr h0 h1 (fun bl off e => by injection e with e; injection e with e1 _ _; have := hg.1; omega) (fun z hzm => by simpa using List.all_eq_true.1 hz z hzm)
/-- An element of plain cells appended to a row that the call owns, inside a region that draws its order: wherever the element's block lies. -/
theorem step_ownP {α : Type} {P : Program} {ops : Array Oper} {o : Oper} {a : Act} {K : Act → World → Prop} {Q : Exit → Act → World → Prop} {E : Prop} (hgd : o.guard = none) (s x : Operand) (t e : TypeId)
    (ho : o.op = .call { callee := .builtin .append, args := #[s, x], argTypes := #[t, t] }) (ht : P.underlying t = some (.slice e)) {z : Value} {size bytes : Nat}
    (hinfo : (P.info? e).map (fun i => (i.zero, i.size, i.bytes)) = some (some z, size, bytes)) (hzs : z.cells.size = size) (hsz : 0 < size) {R : CR α} (hR : Good size R) (w : World) (base : Nat) (v : Value) (xs : List α)
    (hown : OwnS size R base e w xs v []) (hs : a.eval s = v) (y : α) (ys : List Value) (hy : R w y ys []) (hy1 : ∀ u ∈ ys, u.oneCell' = true) (g : Nat)
    (hx : a.eval x = .slice (some ⟨g, 0, none⟩) 1 1) (hg : w.heap[g]? = some (.cells ys.toArray e (0, 0)))
    (hn : xs.length + 1 ≤ 1099511627776) (hby : (xs.length + 1) * bytes ≤ 140737488355328) (hbase : base ≤ w.heap.size)
    (hK : ∀ v' w', OwnS size R base e w' (xs ++ [y]) v' [] → w.grownBy w' v.ownBlock → (∀ k, v'.ownBlock = some k → v.ownBlock = some k ∨ w.heap.size ≤ k) → K (a.put o.dst v') w') :
    if Region.wanted o (yielded ops a.tmps) = true then Oper.wp P o a w K Q else E := by
  have hw : Region.wanted o (yielded ops a.tmps) = true := by simp [Region.wanted, hgd]
  rw [if_pos hw]
  obtain ⟨i0, hi, hz0, hz1, hz2⟩ := info_parts hinfo
  have hlen := hR.len hy
  obtain ⟨⟨cl, hrow, hel⟩, hf, hoff⟩ := hown
  have hcells : ∀ j u, ys[j]? = some u → w.cell? ((⟨g, 0, none⟩ : Addr).add j) = some u := fun j u hu => by
    have e1 : (⟨g, 0, none⟩ : Addr).add j = ⟨g, j, none⟩ := by
      unfold Addr.add
      split
      · rename_i h0; subst h0; rfl
      · rw [show (0 : Nat) + j = j by omega]
    rw [e1, cell_of_row _ _ _ _ _ _ hg]
    simpa using hu
  obtain ⟨v', w', hr, h2, h3, h4⟩ := run_append_where (P := P) w base t o.type e i0 z size bytes ht hi hz0 hz1 hz2 hzs hsz v xs.length cl hrow ⟨g, 0, none⟩ 1 1 ys (by omega) hcells hy1 (by unfold maxLen; omega) hby (by omega)
  have hzw : w.heap.size ≤ w'.heap.size := h3.size
  have hres : OwnS size R base e w' (xs ++ [y]) v' [] :=
    ⟨⟨cl ++ ys, by rw [List.length_append]; exact h2, ElL.snoc (F := []) (G := []) (hR.frame hy (fun k hk => by cases hk) hzw) (hel.frame hR hzw (fun k hk => by cases hk))⟩, Fresh.nil _ _, by simp⟩
  have hfin := hK v' w' hres h3 h4
  unfold Oper.wp execOp
  simp only [ho, resolve, invoke, builtin, Sem.run_bind, Sem.run_pure, Result.andThen_ok, List.map_toArray, List.map_cons, List.map_nil, hs, hx, hr]
  exact hfin
theorem Stay.row {n : Nat} {w w' : World} {r : Option Nat} (hg : w.grownBy w' r) (hr : ∀ k, r = some k → k < n) : Stay n w w' := fun g o h => ⟨h.1, (hg.block g h.lt (fun e => by have := hr g e.symm; have := h.1; omega)).trans h.2⟩
theorem updL_f {l : Nat → Bool} {i j : Nat} (h : updL l i j = false) : l j = false := by
  unfold updL at h
  cases hl : l j with
  | false => rfl
  | true => rw [hl] at h; cases h
theorem ElN.mono {n : Nat} {w w' : World} {x : Value} {T : TypeId} {k : Nat} (s : Stay n w w') (h : ∃ z : ByteArray, z.size ≤ 32 ∧ SlN n w x #[.string z, .int .i64 1, .int .i64 2, .bool false] T k) : ∃ z : ByteArray, z.size ≤ 32 ∧ SlN n w' x #[.string z, .int .i64 1, .int .i64 2, .bool false] T k := h.imp fun _ h => ⟨h.1, SlN.mono s h.2⟩
theorem letter_at5 {n g j : Nat} {w : World} {T : TypeId} (hg : New n w g (.cells #[.string ⟨#[101]⟩, .string ⟨#[102]⟩, .string ⟨#[103]⟩, .string ⟨#[104]⟩, .string ⟨#[105]⟩] T (0, 0))) (hj : j < 5) : ∃ s : ByteArray, w.cell? ⟨g, j, none⟩ = some (.string s) ∧ s.size ≤ 32 := by
  rw [cell_of_row _ _ _ _ _ _ hg.2]
  have : j = 0 ∨ j = 1 ∨ j = 2 ∨ j = 3 ∨ j = 4 := by omega
  rcases this with rfl | rfl | rfl | rfl | rfl
  · exact ⟨⟨#[101]⟩, rfl, by decide⟩
  · exact ⟨⟨#[102]⟩, rfl, by decide⟩
  · exact ⟨⟨#[103]⟩, rfl, by decide⟩
  · exact ⟨⟨#[104]⟩, rfl, by decide⟩
  · exact ⟨⟨#[105]⟩, rfl, by decide⟩
/-- A row does not lie where something of another type lies. -/
theorem OwnS.ne {α : Type} {n B : Nat} {R : CR α} {e t : TypeId} {w : World} {xs : List α} {v : Value} {F : List Nat} (h : OwnS n R B e w xs v F) {bs : Nat} {cs : Array Value} (hb : w.heap[bs]? = some (.cells cs t (0, 0))) (ht : e ≠ t) : ∀ k, v.ownBlock = some k → k ≠ bs := fun k hk hkb => by
  obtain ⟨⟨cl, ⟨_, h2⟩, _⟩, _, _⟩ := h
  rcases h2 with ⟨rfl, _⟩ | ⟨g, cap, cur, rfl, _, hg, _⟩
  · cases hk
  · obtain rfl := Option.some.inj (show some g = some k from hk)
    rw [hkb, hb] at hg
    injection hg with hg
    injection hg with _ h3 _
    exact ht h3.symm
theorem wf_small {t : Int} (h0 : -1000 ≤ t) (h1 : t ≤ 1000) : (Lit.int .i64 t).wf = true := by
  have e1 : IntKind.i64.min = -9223372036854775808 := rfl
  have e2 : IntKind.i64.max = 9223372036854775807 := rfl
  simp [Lit.wf, e1, e2]
  omega
theorem atr_name {a : Atr} (h : a.ok) {s : ByteArray} (hs : s.size ≤ 32) : (⟨s, a.type, a.mode, a.circ⟩ : Atr).ok := ⟨by show s.size ≤ maxLen; unfold maxLen; omega, h.type, h.mode⟩
theorem atr_type {a : Atr} (h : a.ok) {t : Int} (h0 : -1000 ≤ t) (h1 : t ≤ 1000) : (⟨a.name, t, a.mode, a.circ⟩ : Atr).ok := ⟨h.name, wf_small h0 h1, h.mode⟩
theorem atr_mode {a : Atr} (h : a.ok) {t : Int} (h0 : -1000 ≤ t) (h1 : t ≤ 1000) : (⟨a.name, a.type, t, a.circ⟩ : Atr).ok := ⟨h.name, h.type, wf_small h0 h1⟩
/-- Where a row with a first element lies. -/
theorem OwnS.head4 {B : Nat} {e : TypeId} {w : World} {a : Atr} {r : List Atr} {A : Option Addr} {n c : Nat} (h : OwnS 4 (AtrR 0) B e w (a :: r) (.slice A n c) []) : ∃ g old, A = some ⟨g, 0, none⟩ ∧ w.heap[g]? = some (.cells old e (0, 0)) ∧ 4 ≤ old.size ∧ B ≤ g := by
  obtain ⟨⟨cl, ⟨h1, h2⟩, hel⟩, h3, h4⟩ := h
  rcases h2 with ⟨_, h0⟩ | ⟨g, cap, cur, hv, hB, hb, hn, hm, hc, ht⟩
  · simp at h0
  · injection hv with hv1 _ _
    refine ⟨g, cur, hv1, hb, ?_, hB⟩
    rw [hc]
    have := Nat.mul_le_mul_right 4 hn
    rw [List.length_cons, Nat.add_mul] at this
    omega
/-- One cell of the first element written. -/
theorem OwnS.setHead {B : Nat} {e : TypeId} {w : World} {a a' : Atr} {r : List Atr} {g n c k : Nat} {u : Value} {old : Array Value} (h : OwnS 4 (AtrR 0) B e w (a :: r) (.slice (some ⟨g, 0, none⟩) n c) []) (ho : w.heap[g]? = some (.cells old e (0, 0))) (hk : k < 4)
    (hu : ∀ cs, AtrR 0 w a cs [] → AtrR 0 w a' (cs.set k u) []) : OwnS 4 (AtrR 0) B e (w.setCell ⟨g, k, none⟩ u) (a' :: r) (.slice (some ⟨g, 0, none⟩) n c) [] := by
  obtain ⟨⟨cl, ⟨h1, h2⟩, cs, cr, F1, F2, rfl, hF, hcs, hcr⟩, h3, h4⟩ := h
  obtain ⟨rfl, rfl⟩ := List.append_eq_nil_iff.1 hF.symm
  rcases h2 with ⟨h2, _⟩ | ⟨g', cap, cur, hv, hB, hb, hn, hm, hc, ht⟩
  · cases h2
  injection hv with hv1 hv2 hv3
  injection hv1 with hv1
  injection hv1 with hv1
  subst hv1
  rw [ho] at hb
  injection hb with hb
  injection hb with hb
  subst hb
  have hl : cs.length = 4 := (AtrR.good 0).len hcs
  refine ⟨⟨cs.set k u ++ cr, ⟨by rw [List.length_append, List.length_set, ← List.length_append]; exact h1, .inr ⟨g, cap, old.setIfInBounds k u, by rw [hv2, hv3]; rfl, hB, heap_setCell_same w g k _ _ u ho, hn, hm, by rw [Array.size_setIfInBounds]; exact hc, ?_⟩⟩, cs.set k u, cr, [], [], rfl, rfl, hu cs hcs, hcr.frame (AtrR.good 0) (by simp) (fun k hk => by cases hk)⟩, Fresh.nil _ _, by simp⟩
  rw [Array.toList_setIfInBounds, List.take_set]
  have ht2 : List.take ((a' :: r).length * 4) old.toList = cs ++ cr := ht
  rw [ht2, List.set_append_left _ _ (by omega)]
set_option maxRecDepth 100000 in
set_option maxHeartbeats 8000000 in
theorem s_l8Bent {b : Nat} {w : World} (hc : Cur w b) : Calls Tryd.prog 15 #[.pointer (some ⟨b, 0, none⟩)] w (DrawnY b w) := by
  have hlt := hc.lt
  have His : Hid ((Tryd.prog.info? 26).map (·.size) = some 2) := hide (by kernel_rfl)
  go_enter Tryd.func15, Tryd.ntmps15
  have hb0 : Below w.heap.size w (w.alloc (Obj.cells #[.string ⟨#[]⟩, .slice none 0 0] 26)) := (Below.refl _ _).alloc (Nat.le_refl _) _
  have za0 := heap_alloc_new w (Obj.cells #[.string ⟨#[]⟩, .slice none 0 0] 26)
  have hc0 := hc.below hb0
  have hg0 : w.grownBy (w.alloc (Obj.cells #[.string ⟨#[]⟩, .slice none 0 0] 26)) (some b) := ⟨hb0.os, hb0.tape, hb0.output, hb0.size, fun k hk _ => hb0.block k hk⟩
  have hp := s_pickNewS hc0 [⟨#[115]⟩, ⟨#[116]⟩, ⟨#[105, 102]⟩, ⟨#[108, 105, 115, 116, 49]⟩] (by decide) (by decide) (by decide)
  simp only [List.map_cons, List.map_nil, List.length_cons, List.length_nil] at hp
  rw [World.size_alloc] at hp
  have Hp := hide hp
  have Za0 := hide za0
  have Hg0 := hide hg0
  clear hp za0 hg0 hb0 hc0
  go_wp2_with (go_at_call 34; refine Calls.mono Hp.out ?_; rintro e w2 ⟨y, rfl, hy, hc2, hg2⟩)
  have za2 := (hg2.block _ (blk_lt Za0.out) (by intro e; injection e; omega)).trans Za0.out
  have hgw2 := grown_trans2 Hg0.out hg2
  have hz2 : w.heap.size < w2.heap.size := blk_lt za2
  refine (s_l8Draw hc2 y hy).mono ?_
  rintro e w3 ⟨x, v, rfl, ⟨B, hB, ho⟩, hsh, hc3, hg3⟩
  have hblt : b < w2.heap.size := by omega
  have za3 := (hg3.block _ hz2 (by intro e; injection e; omega)).trans za2
  have hgw3 := grown_trans2 hgw2 hg3
  have hrow3 := ho.blk
  obtain ⟨A, cap, rfl, hlc, hm⟩ := ho.form
  have hB4 : Below w3.heap.size w3 (w3.alloc (Obj.cells #[.string x.name, .slice A x.attrs.length cap] 26)) := (Below.refl _ _).alloc (Nat.le_refl _) _
  have hc4 := hc3.below hB4
  have zb4 := heap_alloc_new w3 (Obj.cells #[.string x.name, .slice A x.attrs.length cap] 26)
  have za4 := blk_below za3 hB4 (blk_lt za3)
  have ho4 := ho.below (AtrR.good 0) hB4
  have hgw4 := grown_baseT hgw3 hB4 hgw3.size
  have Hsh := hide hsh
  have Zb4 := hide zb4
  have Za4 := hide za4
  have Ho4 := hide ho4
  have Hgw4 := hide hgw4
  have Hc4 := hide hc4
  have hz3 : w2.heap.size ≤ w3.heap.size := hg3.size
  have Hrow3 := hide hrow3
  clear Hp Za0 Hg0 za2 hgw2 za3 hgw3 hrow3 hB4 hc4 zb4 za4 ho4 hgw4 hsh hc2 hg2 hc3 hg3 ho hc
  obtain ⟨bs, hbs⟩ : ∃ bs, bs = w3.heap.size := ⟨_, rfl⟩
  rw [← hbs] at Zb4 Hrow3 hz3
  go_wp2_with fail
  rw [← hbs]
  generalize w3.alloc (Obj.cells #[.string x.name, .slice A x.attrs.length cap] 26) = W4 at Zb4 Za4 Ho4 Hgw4 Hc4 ⊢
  refine (s_l1Below Hc4.out 10 (by omega) (by omega)).mono ?_
  rintro e V ⟨k, rfl, hk0, hk1, hc5, hg5⟩
  have Hc := hide hc5
  have Hb := hide ((hg5.block _ (blk_lt Zb4.out) (by intro e; injection e; omega)).trans Zb4.out)
  have Ha := hide ((hg5.block _ (blk_lt Za4.out) (by intro e; injection e; omega)).trans Za4.out)
  have Ho := hide (Ho4.out.grownT (AtrR.good 0) (by omega) hg5)
  have Hg := hide (grown_trans2 Hgw4.out hg5)
  clear hc5 hg5 Zb4 Za4 Ho4 Hgw4 Hc4
  obtain ⟨a0, r, hxa⟩ : ∃ a0 r, x.attrs = a0 :: r := by
    cases h : x.attrs with
    | nil => have := Hsh.out.2.2.1; rw [h] at this; simp at this
    | cons a0 r => exact ⟨a0, r, rfl⟩
  obtain ⟨L, hL⟩ : ∃ L, L = x.attrs.length := ⟨_, rfl⟩
  rw [← hL] at Hb Ho ⊢
  rw [hxa] at Ho
  have hLr : L = r.length + 1 := by rw [hL, hxa]; rfl
  obtain ⟨g, old, rfl, hrow, hosz, hgB⟩ := Ho.out.head4
  have Hrow := hide hrow
  have hgb : g < bs := (Hrow3.out g rfl).2
  replace Hsh : Hid (x.name.size ≤ 32 ∧ (a0 :: r).length ≤ 5 ∧ 1 ≤ (a0 :: r).length ∧ ∀ a ∈ (a0 :: r), a.ok ∧ a.name.size ≤ 32) := hide (by have := Hsh.out; unfold shortY at this; rw [hxa] at this; exact this)
  have ha0 := Hsh.out.2.2.2 a0 (by simp)
  have hLi : (0 : Int) < (L : Int) := by omega
  have hLn : 0 < L := by omega
  have HLr := hide hLr
  have HLr0 : Hid (L = (a0 :: r).length) := hide hLr
  have hbsV : bs < V.heap.size := blk_lt Hb.out
  have hgV : g < V.heap.size := blk_lt Hrow.out
  have haV : w.heap.size < V.heap.size := blk_lt Ha.out
  have hbV : b < V.heap.size := by omega
  have hBw : w.heap.size ≤ B := by omega
  clear hrow Hrow3 hL hxa hlc hbs hLr
  by_cases k0 : k = 0
  · subst k0
    have q := cell_at (i := 1) Hb.out (by simp)
    have yq := frozen_of_row V _ 3 _ _ Hrow.out
    have qq := cell_at (i := 3) Hrow.out (by omega)
    have ok0 : (⟨a0.name, a0.type, a0.mode, true⟩ : Atr).ok := ⟨ha0.1.name, ha0.1.type, ha0.1.mode⟩
    have ho1 := OwnS.setHead (k := 3) (u := .bool true) (a' := ⟨a0.name, a0.type, a0.mode, true⟩) Ho.out Hrow.out (by decide) (fun cs h => ⟨by rw [List.length_set]; exact h.1, ok0, by rw [List.getElem?_set_ne (by decide)]; exact h.2.2.1, by rw [List.getElem?_set_ne (by decide)]; exact h.2.2.2.1, by rw [List.getElem?_set_ne (by decide)]; exact h.2.2.2.2.1, by rw [List.getElem?_set_self (by rw [h.1]; decide)], rfl⟩)
    have hBs : Below w.heap.size V (V.setCell ⟨g, 3, none⟩ (.bool true)) := Below.setCell (p := ⟨g, 3, none⟩) (Below.refl _ _) (show w.heap.size ≤ g by omega) _
    have zb2 : (V.setCell ⟨g, 3, none⟩ (.bool true)).heap[bs]? = _ := (heap_setCell_other _ _ _ _ (by simp; omega)).trans Hb.out
    have za2 : (V.setCell ⟨g, 3, none⟩ (.bool true)).heap[w.heap.size]? = _ := (heap_setCell_other _ _ _ _ (by simp; omega)).trans Ha.out
    have hc2 := Hc.out.baseT hBs hlt
    have hg2 := grown_baseT Hg.out hBs (Nat.le_refl _)
    have hcS : Hid (CellsAt (V.setCell ⟨g, 3, none⟩ (.bool true)) bs 0 [.string x.name, .slice (some ⟨g, 0, none⟩) L cap]) := hide fun i u hu => by
      rw [cell_of_row _ _ _ _ _ _ zb2, Nat.zero_add]
      simpa using hu
    have hzA := hide za2
    have hOw := hide ho1
    have hCu := hide hc2
    have hGr := hide hg2
    have hSh : Hid (shortY ⟨x.name, ⟨a0.name, a0.type, a0.mode, true⟩ :: r⟩) := hide ⟨Hsh.out.1, Hsh.out.2.1, Hsh.out.2.2.1, fun a ha => by rcases List.mem_cons.1 ha with h | h; exact h ▸ ⟨ok0, ha0.2⟩; exact Hsh.out.2.2.2 a (List.mem_cons_of_mem _ h)⟩
    go_wp2_with (first
      | refine wpList_load_at 26 (.tmp 3) rfl Tryd.underlying26 rfl His.out rfl rfl (by rfl) hcS.out ?_
      | (refine wpList_store_at 26 (.tmp 2) (.tmp 60) (cs := [.string x.name, .slice (some ⟨g, 0, none⟩) L cap]) rfl His.out rfl rfl rfl rfl (by simp [Value.oneCell']) hzA.out (by decide) ?_; intro WF hP; have HP := hide hP; clear hP))
    obtain ⟨x0, x1⟩ := HP.out.cellsAt.two0
    have hbF : Below w.heap.size (V.setCell ⟨g, 3, none⟩ (.bool true)) WF := HP.out.below (Nat.le_refl _)
    exact bodyPost_ret (v := .agg #[.string x.name, .slice (some ⟨g, 0, none⟩) L cap]) (by simp [results, Tryd.results15, go_sem, x0, x1]) rfl ⟨⟨x.name, ⟨a0.name, a0.type, a0.mode, true⟩ :: r⟩, _, rfl, ⟨B, hBw, OwnS.keep1 (AtrR.good 0) hOw.out (fun k hk => HP.out.far k (by have := (hOw.out.blk k hk).1; omega)) (by rw [HP.out.size]; exact Nat.le_refl _)⟩, hSh.out, hCu.out.baseT hbF hlt, grown_baseT hGr.out hbF (Nat.le_refl _)⟩
  by_cases k1 : k = 1
  · subst k1
    go_wp2_with fail
    refine region_invA (fun a0 l a' w' => ∃ x0 x1 x2 x3 x4 x5 : Value, a' = ((((((a0.put (some 19) x0).put (some 20) x1).put (some 21) x2).put (some 22) x3).put (some 23) x4).put (some 24) x5) ∧ (l 6 = true → ∀ i, i < 6 → l i = true) ∧ (l 6 = true → ∃ (W1 : World) (t : Int), Cur W1 b ∧ V.grownBy W1 (some b) ∧ 0 ≤ t ∧ t ≤ 4 ∧ w' = W1.setCell ⟨g, 2, none⟩ (.int .i64 t)) ∧ (l 6 = false → Cur w' b ∧ V.grownBy w' (some b) ∧ (l 0 = true → x0 = .pointer (some ⟨bs, 1, none⟩)) ∧ (l 1 = true → x1 = .slice (some ⟨g, 0, none⟩) L cap) ∧ (l 2 = true → x2 = .pointer (some ⟨b, 0, none⟩)) ∧ (l 3 = true → ∃ t : Int, x3 = .int .i64 t ∧ 0 ≤ t ∧ t ≤ 4) ∧ (l 4 = true → x4 = .pointer (some ⟨g, 0, none⟩)) ∧ (l 5 = true → x5 = .pointer (some ⟨g, 2, none⟩)))) rfl (by kernel_rfl) ?h0 ?hstep ?hend
    case h0 => exact ⟨undef, undef, undef, undef, undef, undef, by kernel_rfl, fun h => absurd h (by decide), fun h => absurd h (by decide), fun _ => ⟨Hc.out.below (Below.refl _ _).drew, ⟨rfl, rfl, rfl, Nat.le_refl _, fun _ _ _ => rfl⟩, fun h => absurd h (by decide), fun h => absurd h (by decide), fun h => absurd h (by decide), fun h => absurd h (by decide), fun h => absurd h (by decide), fun h => absurd h (by decide)⟩⟩
    case hstep =>
      refine ⟨?s0, ?s1, ?s2, ?s3, ?s4, ?s5, ?s6, trivial⟩
      case s0 =>
        intro l a' w' hk hpre hJ K hK
        obtain ⟨x0, x1, x2, x3, x4, x5, ha, hall, hfin, hfs⟩ := hJ
        have h12 : l 6 = false := upd_last hall hk (by decide)
        clear hall hfin
        obtain ⟨hcu, hgr, f0, f1, f2, f3, f4, f5⟩ := hfs h12
        subst ha
        go_simp
        exact hK.out _ _ ⟨.pointer (some ⟨bs, 1, none⟩), x1, x2, x3, x4, x5, by kernel_rfl, fun h => absurd (updL_ne h (by decide)) (by rw [h12]; decide), fun h => absurd (updL_ne h (by decide)) (by rw [h12]; decide), fun _ => ⟨hcu, hgr, fun _ => rfl, fun h => f1 (updL_ne h (by decide)), fun h => f2 (updL_ne h (by decide)), fun h => f3 (updL_ne h (by decide)), fun h => f4 (updL_ne h (by decide)), fun h => f5 (updL_ne h (by decide))⟩⟩
      case s1 =>
        intro l a' w' hk hpre hJ K hK
        obtain ⟨x0, x1, x2, x3, x4, x5, ha, hall, hfin, hfs⟩ := hJ
        have h12 : l 6 = false := upd_last hall hk (by decide)
        clear hall hfin
        obtain ⟨hcu, hgr, f0, f1, f2, f3, f4, f5⟩ := hfs h12
        have p0 : l 0 = true := hpre 0 (by kernel_rfl)
        obtain rfl := f0 p0
        have zb := (hgr.block _ hbsV (by intro e; injection e; omega)).trans Hb.out
        have q := cell_at (i := 1) zb (by simp)
        subst ha
        go_simp
        exact hK.out _ _ ⟨.pointer (some ⟨bs, 1, none⟩), .slice (some ⟨g, 0, none⟩) L cap, x2, x3, x4, x5, by kernel_rfl, fun h => absurd (updL_ne h (by decide)) (by rw [h12]; decide), fun h => absurd (updL_ne h (by decide)) (by rw [h12]; decide), fun _ => ⟨hcu, hgr, fun h => f0 (updL_ne h (by decide)), fun _ => rfl, fun h => f2 (updL_ne h (by decide)), fun h => f3 (updL_ne h (by decide)), fun h => f4 (updL_ne h (by decide)), fun h => f5 (updL_ne h (by decide))⟩⟩
      case s2 =>
        intro l a' w' hk hpre hJ K hK
        obtain ⟨x0, x1, x2, x3, x4, x5, ha, hall, hfin, hfs⟩ := hJ
        have h12 : l 6 = false := upd_last hall hk (by decide)
        clear hall hfin
        obtain ⟨hcu, hgr, f0, f1, f2, f3, f4, f5⟩ := hfs h12
        subst ha
        go_simp
        exact hK.out _ _ ⟨x0, x1, .pointer (some ⟨b, 0, none⟩), x3, x4, x5, by kernel_rfl, fun h => absurd (updL_ne h (by decide)) (by rw [h12]; decide), fun h => absurd (updL_ne h (by decide)) (by rw [h12]; decide), fun _ => ⟨hcu, hgr, fun h => f0 (updL_ne h (by decide)), fun h => f1 (updL_ne h (by decide)), fun _ => rfl, fun h => f3 (updL_ne h (by decide)), fun h => f4 (updL_ne h (by decide)), fun h => f5 (updL_ne h (by decide))⟩⟩
      case s3 =>
        intro l a' w' hk hpre hJ K hK
        obtain ⟨x0, x1, x2, x3, x4, x5, ha, hall, hfin, hfs⟩ := hJ
        have h12 : l 6 = false := upd_last hall hk (by decide)
        clear hall hfin
        obtain ⟨hcu, hgr, f0, f1, f2, f3, f4, f5⟩ := hfs h12
        have p2 : l 2 = true := hpre 2 (by kernel_rfl)
        obtain rfl := f2 p2
        subst ha
        go_simp
        go_at_call 35
        refine Calls.mono (s_l1Below hcu 5 (by omega) (by omega)) ?_
        rintro en w2 ⟨t, rfl, ht0, ht1, hc2, hg2⟩
        exact hK.out _ _ ⟨x0, x1, .pointer (some ⟨b, 0, none⟩), .int .i64 t, x4, x5, by kernel_rfl, fun h => absurd (updL_ne h (by decide)) (by rw [h12]; decide), fun h => absurd (updL_ne h (by decide)) (by rw [h12]; decide), fun _ => ⟨hc2, grown_trans2 hgr hg2, fun h => f0 (updL_ne h (by decide)), fun h => f1 (updL_ne h (by decide)), fun h => f2 (updL_ne h (by decide)), fun _ => ⟨t, rfl, ht0, by omega⟩, fun h => f4 (updL_ne h (by decide)), fun h => f5 (updL_ne h (by decide))⟩⟩
      case s4 =>
        intro l a' w' hk hpre hJ K hK
        obtain ⟨x0, x1, x2, x3, x4, x5, ha, hall, hfin, hfs⟩ := hJ
        have h12 : l 6 = false := upd_last hall hk (by decide)
        clear hall hfin
        obtain ⟨hcu, hgr, f0, f1, f2, f3, f4, f5⟩ := hfs h12
        have p1 : l 1 = true := hpre 1 (by kernel_rfl)
        obtain rfl := f1 p1
        subst ha
        go_simp
        exact hK.out _ _ ⟨x0, .slice (some ⟨g, 0, none⟩) L cap, x2, x3, .pointer (some ⟨g, 0, none⟩), x5, by kernel_rfl, fun h => absurd (updL_ne h (by decide)) (by rw [h12]; decide), fun h => absurd (updL_ne h (by decide)) (by rw [h12]; decide), fun _ => ⟨hcu, hgr, fun h => f0 (updL_ne h (by decide)), fun h => f1 (updL_ne h (by decide)), fun h => f2 (updL_ne h (by decide)), fun h => f3 (updL_ne h (by decide)), fun _ => rfl, fun h => f5 (updL_ne h (by decide))⟩⟩
      case s5 =>
        intro l a' w' hk hpre hJ K hK
        obtain ⟨x0, x1, x2, x3, x4, x5, ha, hall, hfin, hfs⟩ := hJ
        have h12 : l 6 = false := upd_last hall hk (by decide)
        clear hall hfin
        obtain ⟨hcu, hgr, f0, f1, f2, f3, f4, f5⟩ := hfs h12
        have p4 : l 4 = true := hpre 4 (by kernel_rfl)
        obtain rfl := f4 p4
        subst ha
        go_simp
        exact hK.out _ _ ⟨x0, x1, x2, x3, .pointer (some ⟨g, 0, none⟩), .pointer (some ⟨g, 2, none⟩), by kernel_rfl, fun h => absurd (updL_ne h (by decide)) (by rw [h12]; decide), fun h => absurd (updL_ne h (by decide)) (by rw [h12]; decide), fun _ => ⟨hcu, hgr, fun h => f0 (updL_ne h (by decide)), fun h => f1 (updL_ne h (by decide)), fun h => f2 (updL_ne h (by decide)), fun h => f3 (updL_ne h (by decide)), fun h => f4 (updL_ne h (by decide)), fun _ => rfl⟩⟩
      case s6 =>
        intro l a' w' hk hpre hJ K hK
        obtain ⟨x0, x1, x2, x3, x4, x5, ha, hall, hfin, hfs⟩ := hJ
        have h12 : l 6 = false := hk
        clear hall hfin
        obtain ⟨hcu, hgr, f0, f1, f2, f3, f4, f5⟩ := hfs h12
        have p3 : l 3 = true := hpre 3 (by kernel_rfl)
        have p5 : l 5 = true := hpre 5 (by kernel_rfl)
        obtain rfl := f5 p5
        obtain ⟨t, rfl, ht0, ht1⟩ := f3 p3
        have zg := (hgr.block _ hgV (by intro e; injection e; omega)).trans Hrow.out
        have yq := frozen_of_row w' _ 2 _ _ zg
        have qq := cell_at (i := 2) zg (by omega)
        subst ha
        go_simp
        exact hK.out _ _ ⟨x0, x1, x2, .int .i64 t, x4, .pointer (some ⟨g, 2, none⟩), by kernel_rfl, fun _ => deep_all hpre (by kernel_rfl) _, fun _ => ⟨w', t, hcu, hgr, ht0, ht1, rfl⟩, fun h => absurd h (by simp [updL])⟩
    case hend =>
      intro l a' w' hl hJ
      obtain ⟨x0, x1, x2, x3, x4, x5, ha, _, hfin, _⟩ := hJ
      simp [go_sem] at ha
      subst ha
      replace hfin := hfin (hl 6 (by decide))
      clear hl
      obtain ⟨W1, t, hcu, hgr, ht0, ht1, rfl⟩ := hfin
      have hW1 := Ho.out.grownT (AtrR.good 0) (by omega) hgr
      have zg1 := (hgr.block _ hgV (by intro e; injection e; omega)).trans Hrow.out
      have zb1 := (hgr.block _ hbsV (by intro e; injection e; omega)).trans Hb.out
      have za1 := (hgr.block _ haV (by intro e; injection e; omega)).trans Ha.out
      have ho1 := OwnS.setHead (k := 2) (u := .int .i64 t) (a' := ⟨a0.name, a0.type, t, a0.circ⟩) hW1 zg1 (by decide) (fun cs h => ⟨by rw [List.length_set]; exact h.1, atr_mode ha0.1 (by omega) (by omega), by rw [List.getElem?_set_ne (by decide)]; exact h.2.2.1, by rw [List.getElem?_set_ne (by decide)]; exact h.2.2.2.1, by rw [List.getElem?_set_self (by rw [h.1]; decide)], by rw [List.getElem?_set_ne (by decide)]; exact h.2.2.2.2.2.1, rfl⟩)
      have hBs : Below w.heap.size W1 (W1.setCell ⟨g, 2, none⟩ (.int .i64 t)) := Below.setCell (p := ⟨g, 2, none⟩) (Below.refl _ _) (show w.heap.size ≤ g by omega) _
      have zb2 : (W1.setCell ⟨g, 2, none⟩ (.int .i64 t)).heap[bs]? = _ := (heap_setCell_other _ _ _ _ (by simp; omega)).trans zb1
      have za2 : (W1.setCell ⟨g, 2, none⟩ (.int .i64 t)).heap[w.heap.size]? = _ := (heap_setCell_other _ _ _ _ (by simp; omega)).trans za1
      have hc2 := hcu.baseT hBs hlt
      have hg2 := grown_baseT (grown_trans2 Hg.out hgr) hBs (Nat.le_refl _)
      have hcS : Hid (CellsAt (W1.setCell ⟨g, 2, none⟩ (.int .i64 t)) bs 0 [.string x.name, .slice (some ⟨g, 0, none⟩) L cap]) := hide fun i u hu => by
        rw [cell_of_row _ _ _ _ _ _ zb2, Nat.zero_add]
        simpa using hu
      have hzA := hide za2
      have hOw := hide ho1
      have hCu := hide hc2
      have hGr := hide hg2
      have hSh : Hid (shortY ⟨x.name, ⟨a0.name, a0.type, t, a0.circ⟩ :: r⟩) := hide ⟨Hsh.out.1, Hsh.out.2.1, Hsh.out.2.2.1, fun a ha => by rcases List.mem_cons.1 ha with h | h; exact h ▸ ⟨atr_mode ha0.1 (by omega) (by omega), ha0.2⟩; exact Hsh.out.2.2.2 a (List.mem_cons_of_mem _ h)⟩
      go_wp2_with (first
        | refine wpList_load_at 26 (.tmp 3) rfl Tryd.underlying26 rfl His.out rfl rfl (by rfl) hcS.out ?_
        | (refine wpList_store_at 26 (.tmp 2) (.tmp 60) (cs := [.string x.name, .slice (some ⟨g, 0, none⟩) L cap]) rfl His.out rfl rfl rfl rfl (by simp [Value.oneCell']) hzA.out (by decide) ?_; intro WF hP; have HP := hide hP; clear hP))
      obtain ⟨x0, x1⟩ := HP.out.cellsAt.two0
      have hbF : Below w.heap.size (W1.setCell ⟨g, 2, none⟩ (.int .i64 t)) WF := HP.out.below (Nat.le_refl _)
      exact bodyPost_ret (v := .agg #[.string x.name, .slice (some ⟨g, 0, none⟩) L cap]) (by simp [results, Tryd.results15, go_sem, x0, x1]) rfl ⟨⟨x.name, ⟨a0.name, a0.type, t, a0.circ⟩ :: r⟩, _, rfl, ⟨B, hBw, OwnS.keep1 (AtrR.good 0) hOw.out (fun k hk => HP.out.far k (by have := (hOw.out.blk k hk).1; omega)) (by rw [HP.out.size]; exact Nat.le_refl _)⟩, hSh.out, hCu.out.baseT hbF hlt, grown_baseT hGr.out hbF (Nat.le_refl _)⟩
  by_cases k2 : k = 2
  · subst k2
    go_wp2_with fail
    refine region_invA (fun a0 l a' w' => ∃ x0 x1 x2 x3 x4 x5 : Value, a' = ((((((a0.put (some 27) x0).put (some 28) x1).put (some 29) x2).put (some 30) x3).put (some 31) x4).put (some 32) x5) ∧ (l 6 = true → ∀ i, i < 6 → l i = true) ∧ (l 6 = true → ∃ (W1 : World) (t : Int), Cur W1 b ∧ V.grownBy W1 (some b) ∧ 0 ≤ t ∧ t ≤ 5 ∧ w' = W1.setCell ⟨g, 1, none⟩ (.int .i64 t)) ∧ (l 6 = false → Cur w' b ∧ V.grownBy w' (some b) ∧ (l 0 = true → x0 = .pointer (some ⟨bs, 1, none⟩)) ∧ (l 1 = true → x1 = .slice (some ⟨g, 0, none⟩) L cap) ∧ (l 2 = true → x2 = .pointer (some ⟨b, 0, none⟩)) ∧ (l 3 = true → ∃ t : Int, x3 = .int .i64 t ∧ 0 ≤ t ∧ t ≤ 5) ∧ (l 4 = true → x4 = .pointer (some ⟨g, 0, none⟩)) ∧ (l 5 = true → x5 = .pointer (some ⟨g, 1, none⟩)))) rfl (by kernel_rfl) ?h0 ?hstep ?hend
    case h0 => exact ⟨undef, undef, undef, undef, undef, undef, by kernel_rfl, fun h => absurd h (by decide), fun h => absurd h (by decide), fun _ => ⟨Hc.out.below (Below.refl _ _).drew, ⟨rfl, rfl, rfl, Nat.le_refl _, fun _ _ _ => rfl⟩, fun h => absurd h (by decide), fun h => absurd h (by decide), fun h => absurd h (by decide), fun h => absurd h (by decide), fun h => absurd h (by decide), fun h => absurd h (by decide)⟩⟩
    case hstep =>
      refine ⟨?s0, ?s1, ?s2, ?s3, ?s4, ?s5, ?s6, trivial⟩
      case s0 =>
        intro l a' w' hk hpre hJ K hK
        obtain ⟨x0, x1, x2, x3, x4, x5, ha, hall, hfin, hfs⟩ := hJ
        have h12 : l 6 = false := upd_last hall hk (by decide)
        clear hall hfin
        obtain ⟨hcu, hgr, f0, f1, f2, f3, f4, f5⟩ := hfs h12
        subst ha
        go_simp
        exact hK.out _ _ ⟨.pointer (some ⟨bs, 1, none⟩), x1, x2, x3, x4, x5, by kernel_rfl, fun h => absurd (updL_ne h (by decide)) (by rw [h12]; decide), fun h => absurd (updL_ne h (by decide)) (by rw [h12]; decide), fun _ => ⟨hcu, hgr, fun _ => rfl, fun h => f1 (updL_ne h (by decide)), fun h => f2 (updL_ne h (by decide)), fun h => f3 (updL_ne h (by decide)), fun h => f4 (updL_ne h (by decide)), fun h => f5 (updL_ne h (by decide))⟩⟩
      case s1 =>
        intro l a' w' hk hpre hJ K hK
        obtain ⟨x0, x1, x2, x3, x4, x5, ha, hall, hfin, hfs⟩ := hJ
        have h12 : l 6 = false := upd_last hall hk (by decide)
        clear hall hfin
        obtain ⟨hcu, hgr, f0, f1, f2, f3, f4, f5⟩ := hfs h12
        have p0 : l 0 = true := hpre 0 (by kernel_rfl)
        obtain rfl := f0 p0
        have zb := (hgr.block _ hbsV (by intro e; injection e; omega)).trans Hb.out
        have q := cell_at (i := 1) zb (by simp)
        subst ha
        go_simp
        exact hK.out _ _ ⟨.pointer (some ⟨bs, 1, none⟩), .slice (some ⟨g, 0, none⟩) L cap, x2, x3, x4, x5, by kernel_rfl, fun h => absurd (updL_ne h (by decide)) (by rw [h12]; decide), fun h => absurd (updL_ne h (by decide)) (by rw [h12]; decide), fun _ => ⟨hcu, hgr, fun h => f0 (updL_ne h (by decide)), fun _ => rfl, fun h => f2 (updL_ne h (by decide)), fun h => f3 (updL_ne h (by decide)), fun h => f4 (updL_ne h (by decide)), fun h => f5 (updL_ne h (by decide))⟩⟩
      case s2 =>
        intro l a' w' hk hpre hJ K hK
        obtain ⟨x0, x1, x2, x3, x4, x5, ha, hall, hfin, hfs⟩ := hJ
        have h12 : l 6 = false := upd_last hall hk (by decide)
        clear hall hfin
        obtain ⟨hcu, hgr, f0, f1, f2, f3, f4, f5⟩ := hfs h12
        subst ha
        go_simp
        exact hK.out _ _ ⟨x0, x1, .pointer (some ⟨b, 0, none⟩), x3, x4, x5, by kernel_rfl, fun h => absurd (updL_ne h (by decide)) (by rw [h12]; decide), fun h => absurd (updL_ne h (by decide)) (by rw [h12]; decide), fun _ => ⟨hcu, hgr, fun h => f0 (updL_ne h (by decide)), fun h => f1 (updL_ne h (by decide)), fun _ => rfl, fun h => f3 (updL_ne h (by decide)), fun h => f4 (updL_ne h (by decide)), fun h => f5 (updL_ne h (by decide))⟩⟩
      case s3 =>
        intro l a' w' hk hpre hJ K hK
        obtain ⟨x0, x1, x2, x3, x4, x5, ha, hall, hfin, hfs⟩ := hJ
        have h12 : l 6 = false := upd_last hall hk (by decide)
        clear hall hfin
        obtain ⟨hcu, hgr, f0, f1, f2, f3, f4, f5⟩ := hfs h12
        have p2 : l 2 = true := hpre 2 (by kernel_rfl)
        obtain rfl := f2 p2
        subst ha
        go_simp
        go_at_call 35
        refine Calls.mono (s_l1Below hcu 6 (by omega) (by omega)) ?_
        rintro en w2 ⟨t, rfl, ht0, ht1, hc2, hg2⟩
        exact hK.out _ _ ⟨x0, x1, .pointer (some ⟨b, 0, none⟩), .int .i64 t, x4, x5, by kernel_rfl, fun h => absurd (updL_ne h (by decide)) (by rw [h12]; decide), fun h => absurd (updL_ne h (by decide)) (by rw [h12]; decide), fun _ => ⟨hc2, grown_trans2 hgr hg2, fun h => f0 (updL_ne h (by decide)), fun h => f1 (updL_ne h (by decide)), fun h => f2 (updL_ne h (by decide)), fun _ => ⟨t, rfl, ht0, by omega⟩, fun h => f4 (updL_ne h (by decide)), fun h => f5 (updL_ne h (by decide))⟩⟩
      case s4 =>
        intro l a' w' hk hpre hJ K hK
        obtain ⟨x0, x1, x2, x3, x4, x5, ha, hall, hfin, hfs⟩ := hJ
        have h12 : l 6 = false := upd_last hall hk (by decide)
        clear hall hfin
        obtain ⟨hcu, hgr, f0, f1, f2, f3, f4, f5⟩ := hfs h12
        have p1 : l 1 = true := hpre 1 (by kernel_rfl)
        obtain rfl := f1 p1
        subst ha
        go_simp
        exact hK.out _ _ ⟨x0, .slice (some ⟨g, 0, none⟩) L cap, x2, x3, .pointer (some ⟨g, 0, none⟩), x5, by kernel_rfl, fun h => absurd (updL_ne h (by decide)) (by rw [h12]; decide), fun h => absurd (updL_ne h (by decide)) (by rw [h12]; decide), fun _ => ⟨hcu, hgr, fun h => f0 (updL_ne h (by decide)), fun h => f1 (updL_ne h (by decide)), fun h => f2 (updL_ne h (by decide)), fun h => f3 (updL_ne h (by decide)), fun _ => rfl, fun h => f5 (updL_ne h (by decide))⟩⟩
      case s5 =>
        intro l a' w' hk hpre hJ K hK
        obtain ⟨x0, x1, x2, x3, x4, x5, ha, hall, hfin, hfs⟩ := hJ
        have h12 : l 6 = false := upd_last hall hk (by decide)
        clear hall hfin
        obtain ⟨hcu, hgr, f0, f1, f2, f3, f4, f5⟩ := hfs h12
        have p4 : l 4 = true := hpre 4 (by kernel_rfl)
        obtain rfl := f4 p4
        subst ha
        go_simp
        exact hK.out _ _ ⟨x0, x1, x2, x3, .pointer (some ⟨g, 0, none⟩), .pointer (some ⟨g, 1, none⟩), by kernel_rfl, fun h => absurd (updL_ne h (by decide)) (by rw [h12]; decide), fun h => absurd (updL_ne h (by decide)) (by rw [h12]; decide), fun _ => ⟨hcu, hgr, fun h => f0 (updL_ne h (by decide)), fun h => f1 (updL_ne h (by decide)), fun h => f2 (updL_ne h (by decide)), fun h => f3 (updL_ne h (by decide)), fun h => f4 (updL_ne h (by decide)), fun _ => rfl⟩⟩
      case s6 =>
        intro l a' w' hk hpre hJ K hK
        obtain ⟨x0, x1, x2, x3, x4, x5, ha, hall, hfin, hfs⟩ := hJ
        have h12 : l 6 = false := hk
        clear hall hfin
        obtain ⟨hcu, hgr, f0, f1, f2, f3, f4, f5⟩ := hfs h12
        have p3 : l 3 = true := hpre 3 (by kernel_rfl)
        have p5 : l 5 = true := hpre 5 (by kernel_rfl)
        obtain rfl := f5 p5
        obtain ⟨t, rfl, ht0, ht1⟩ := f3 p3
        have zg := (hgr.block _ hgV (by intro e; injection e; omega)).trans Hrow.out
        have yq := frozen_of_row w' _ 1 _ _ zg
        have qq := cell_at (i := 1) zg (by omega)
        subst ha
        go_simp
        exact hK.out _ _ ⟨x0, x1, x2, .int .i64 t, x4, .pointer (some ⟨g, 1, none⟩), by kernel_rfl, fun _ => deep_all hpre (by kernel_rfl) _, fun _ => ⟨w', t, hcu, hgr, ht0, ht1, rfl⟩, fun h => absurd h (by simp [updL])⟩
    case hend =>
      intro l a' w' hl hJ
      obtain ⟨x0, x1, x2, x3, x4, x5, ha, _, hfin, _⟩ := hJ
      simp [go_sem] at ha
      subst ha
      replace hfin := hfin (hl 6 (by decide))
      clear hl
      obtain ⟨W1, t, hcu, hgr, ht0, ht1, rfl⟩ := hfin
      have hW1 := Ho.out.grownT (AtrR.good 0) (by omega) hgr
      have zg1 := (hgr.block _ hgV (by intro e; injection e; omega)).trans Hrow.out
      have zb1 := (hgr.block _ hbsV (by intro e; injection e; omega)).trans Hb.out
      have za1 := (hgr.block _ haV (by intro e; injection e; omega)).trans Ha.out
      have ho1 := OwnS.setHead (k := 1) (u := .int .i64 t) (a' := ⟨a0.name, t, a0.mode, a0.circ⟩) hW1 zg1 (by decide) (fun cs h => ⟨by rw [List.length_set]; exact h.1, atr_type ha0.1 (by omega) (by omega), by rw [List.getElem?_set_ne (by decide)]; exact h.2.2.1, by rw [List.getElem?_set_self (by rw [h.1]; decide)], by rw [List.getElem?_set_ne (by decide)]; exact h.2.2.2.2.1, by rw [List.getElem?_set_ne (by decide)]; exact h.2.2.2.2.2.1, rfl⟩)
      have hBs : Below w.heap.size W1 (W1.setCell ⟨g, 1, none⟩ (.int .i64 t)) := Below.setCell (p := ⟨g, 1, none⟩) (Below.refl _ _) (show w.heap.size ≤ g by omega) _
      have zb2 : (W1.setCell ⟨g, 1, none⟩ (.int .i64 t)).heap[bs]? = _ := (heap_setCell_other _ _ _ _ (by simp; omega)).trans zb1
      have za2 : (W1.setCell ⟨g, 1, none⟩ (.int .i64 t)).heap[w.heap.size]? = _ := (heap_setCell_other _ _ _ _ (by simp; omega)).trans za1
      have hc2 := hcu.baseT hBs hlt
      have hg2 := grown_baseT (grown_trans2 Hg.out hgr) hBs (Nat.le_refl _)
      have hcS : Hid (CellsAt (W1.setCell ⟨g, 1, none⟩ (.int .i64 t)) bs 0 [.string x.name, .slice (some ⟨g, 0, none⟩) L cap]) := hide fun i u hu => by
        rw [cell_of_row _ _ _ _ _ _ zb2, Nat.zero_add]
        simpa using hu
      have hzA := hide za2
      have hOw := hide ho1
      have hCu := hide hc2
      have hGr := hide hg2
      have hSh : Hid (shortY ⟨x.name, ⟨a0.name, t, a0.mode, a0.circ⟩ :: r⟩) := hide ⟨Hsh.out.1, Hsh.out.2.1, Hsh.out.2.2.1, fun a ha => by rcases List.mem_cons.1 ha with h | h; exact h ▸ ⟨atr_type ha0.1 (by omega) (by omega), ha0.2⟩; exact Hsh.out.2.2.2 a (List.mem_cons_of_mem _ h)⟩
      go_wp2_with (first
        | refine wpList_load_at 26 (.tmp 3) rfl Tryd.underlying26 rfl His.out rfl rfl (by rfl) hcS.out ?_
        | (refine wpList_store_at 26 (.tmp 2) (.tmp 60) (cs := [.string x.name, .slice (some ⟨g, 0, none⟩) L cap]) rfl His.out rfl rfl rfl rfl (by simp [Value.oneCell']) hzA.out (by decide) ?_; intro WF hP; have HP := hide hP; clear hP))
      obtain ⟨x0, x1⟩ := HP.out.cellsAt.two0
      have hbF : Below w.heap.size (W1.setCell ⟨g, 1, none⟩ (.int .i64 t)) WF := HP.out.below (Nat.le_refl _)
      exact bodyPost_ret (v := .agg #[.string x.name, .slice (some ⟨g, 0, none⟩) L cap]) (by simp [results, Tryd.results15, go_sem, x0, x1]) rfl ⟨⟨x.name, ⟨a0.name, t, a0.mode, a0.circ⟩ :: r⟩, _, rfl, ⟨B, hBw, OwnS.keep1 (AtrR.good 0) hOw.out (fun k hk => HP.out.far k (by have := (hOw.out.blk k hk).1; omega)) (by rw [HP.out.size]; exact Nat.le_refl _)⟩, hSh.out, hCu.out.baseT hbF hlt, grown_baseT hGr.out hbF (Nat.le_refl _)⟩
  by_cases k3 : k = 3
  · subst k3
    go_wp2_with fail
    refine region_invA (fun a0 l a' w' => ∃ x0 x1 x2 x3 x4 x5 x6 : Value, a' = (((((((a0.put (some 35) x0).put (some 36) x1).put (some 37) x2).put (some 38) x3).put (some 39) x4).put (some 40) x5).put (some 41) x6) ∧ (l 7 = true → ∀ i, i < 7 → l i = true) ∧ (l 7 = true → ∃ (W1 : World) (t : ByteArray), Cur W1 b ∧ V.grownBy W1 (some b) ∧ t.size ≤ 32 ∧ w' = W1.setCell ⟨g, 0, none⟩ (.string t)) ∧ (l 7 = false → Cur w' b ∧ V.grownBy w' (some b) ∧ (l 0 = true → x0 = .pointer (some ⟨bs, 1, none⟩)) ∧ (l 1 = true → x1 = .slice (some ⟨g, 0, none⟩) L cap) ∧ (l 2 = true → x2 = .pointer (some ⟨b, 0, none⟩)) ∧ (l 3 = true → SlN V.heap.size w' x3 #[.string ⟨#[98]⟩, .string ⟨#[111, 102]⟩, .string ⟨#[]⟩] 9 3) ∧ (l 4 = true → ∃ t : ByteArray, x4 = .string t ∧ t.size ≤ 32) ∧ (l 5 = true → x5 = .pointer (some ⟨g, 0, none⟩)) ∧ (l 6 = true → x6 = .pointer (some ⟨g, 0, none⟩)))) rfl (by kernel_rfl) ?h0 ?hstep ?hend
    case h0 => exact ⟨undef, undef, undef, undef, undef, undef, undef, by kernel_rfl, fun h => absurd h (by decide), fun h => absurd h (by decide), fun _ => ⟨Hc.out.below (Below.refl _ _).drew, ⟨rfl, rfl, rfl, Nat.le_refl _, fun _ _ _ => rfl⟩, fun h => absurd h (by decide), fun h => absurd h (by decide), fun h => absurd h (by decide), fun h => absurd h (by decide), fun h => absurd h (by decide), fun h => absurd h (by decide), fun h => absurd h (by decide)⟩⟩
    case hstep =>
      refine ⟨?s0, ?s1, ?s2, ?s3, ?s4, ?s5, ?s6, ?s7, trivial⟩
      case s0 =>
        intro l a' w' hk hpre hJ K hK
        obtain ⟨x0, x1, x2, x3, x4, x5, x6, ha, hall, hfin, hfs⟩ := hJ
        have h12 : l 7 = false := upd_last hall hk (by decide)
        clear hall hfin
        obtain ⟨hcu, hgr, f0, f1, f2, f3, f4, f5, f6⟩ := hfs h12
        subst ha
        go_simp
        exact hK.out _ _ ⟨.pointer (some ⟨bs, 1, none⟩), x1, x2, x3, x4, x5, x6, by kernel_rfl, fun h => absurd (updL_ne h (by decide)) (by rw [h12]; decide), fun h => absurd (updL_ne h (by decide)) (by rw [h12]; decide), fun _ => ⟨hcu, hgr, fun _ => rfl, fun h => f1 (updL_ne h (by decide)), fun h => f2 (updL_ne h (by decide)), fun h => f3 (updL_ne h (by decide)), fun h => f4 (updL_ne h (by decide)), fun h => f5 (updL_ne h (by decide)), fun h => f6 (updL_ne h (by decide))⟩⟩
      case s1 =>
        intro l a' w' hk hpre hJ K hK
        obtain ⟨x0, x1, x2, x3, x4, x5, x6, ha, hall, hfin, hfs⟩ := hJ
        have h12 : l 7 = false := upd_last hall hk (by decide)
        clear hall hfin
        obtain ⟨hcu, hgr, f0, f1, f2, f3, f4, f5, f6⟩ := hfs h12
        have p0 : l 0 = true := hpre 0 (by kernel_rfl)
        obtain rfl := f0 p0
        have zb := (hgr.block _ hbsV (by intro e; injection e; omega)).trans Hb.out
        have q := cell_at (i := 1) zb (by simp)
        subst ha
        go_simp
        exact hK.out _ _ ⟨.pointer (some ⟨bs, 1, none⟩), .slice (some ⟨g, 0, none⟩) L cap, x2, x3, x4, x5, x6, by kernel_rfl, fun h => absurd (updL_ne h (by decide)) (by rw [h12]; decide), fun h => absurd (updL_ne h (by decide)) (by rw [h12]; decide), fun _ => ⟨hcu, hgr, fun h => f0 (updL_ne h (by decide)), fun _ => rfl, fun h => f2 (updL_ne h (by decide)), fun h => f3 (updL_ne h (by decide)), fun h => f4 (updL_ne h (by decide)), fun h => f5 (updL_ne h (by decide)), fun h => f6 (updL_ne h (by decide))⟩⟩
      case s2 =>
        intro l a' w' hk hpre hJ K hK
        obtain ⟨x0, x1, x2, x3, x4, x5, x6, ha, hall, hfin, hfs⟩ := hJ
        have h12 : l 7 = false := upd_last hall hk (by decide)
        clear hall hfin
        obtain ⟨hcu, hgr, f0, f1, f2, f3, f4, f5, f6⟩ := hfs h12
        subst ha
        go_simp
        exact hK.out _ _ ⟨x0, x1, .pointer (some ⟨b, 0, none⟩), x3, x4, x5, x6, by kernel_rfl, fun h => absurd (updL_ne h (by decide)) (by rw [h12]; decide), fun h => absurd (updL_ne h (by decide)) (by rw [h12]; decide), fun _ => ⟨hcu, hgr, fun h => f0 (updL_ne h (by decide)), fun h => f1 (updL_ne h (by decide)), fun _ => rfl, fun h => f3 (updL_ne h (by decide)), fun h => f4 (updL_ne h (by decide)), fun h => f5 (updL_ne h (by decide)), fun h => f6 (updL_ne h (by decide))⟩⟩
      case s3 =>
        intro l a' w' hk hpre hJ K hK
        obtain ⟨x0, x1, x2, x3, x4, x5, x6, ha, hall, hfin, hfs⟩ := hJ
        have h12 : l 7 = false := upd_last hall hk (by decide)
        clear hall hfin
        obtain ⟨hcu, hgr, f0, f1, f2, f3, f4, f5, f6⟩ := hfs h12
        subst ha
        go_simp
        exact hK.out _ _ ⟨x0, x1, x2, .slice (some ⟨w'.heap.size, 0, none⟩) 3 3, x4, x5, x6, by kernel_rfl, fun h => absurd (updL_ne h (by decide)) (by rw [h12]; decide), fun h => absurd (updL_ne h (by decide)) (by rw [h12]; decide), fun _ => ⟨hcu.below ((Below.refl _ _).alloc (Nat.le_refl _) _), grown_baseT hgr ((Below.refl _ _).alloc (Nat.le_refl _) _) hgr.size, fun h => f0 (updL_ne h (by decide)), fun h => f1 (updL_ne h (by decide)), fun h => f2 (updL_ne h (by decide)), fun _ => ⟨_, rfl, New.made hgr.size _ _⟩, fun h => f4 (updL_ne h (by decide)), fun h => f5 (updL_ne h (by decide)), fun h => f6 (updL_ne h (by decide))⟩⟩
      case s4 =>
        intro l a' w' hk hpre hJ K hK
        obtain ⟨x0, x1, x2, x3, x4, x5, x6, ha, hall, hfin, hfs⟩ := hJ
        have h12 : l 7 = false := upd_last hall hk (by decide)
        clear hall hfin
        obtain ⟨hcu, hgr, f0, f1, f2, f3, f4, f5, f6⟩ := hfs h12
        have p2 : l 2 = true := hpre 2 (by kernel_rfl)
        have p3 : l 3 = true := hpre 3 (by kernel_rfl)
        obtain rfl := f2 p2
        obtain ⟨gs, rfl, hgs⟩ := f3 p3
        subst ha
        go_simp
        go_at_call 34
        refine Calls.mono (s_pickAtS hcu hbV [⟨#[98]⟩, ⟨#[111, 102]⟩, ⟨#[]⟩] hgs (by decide) (by decide) (by decide)) ?_
        rintro en w2 ⟨t, rfl, ht, hc2, hg2⟩
        exact hK.out _ _ ⟨x0, x1, .pointer (some ⟨b, 0, none⟩), .slice (some ⟨gs, 0, none⟩) 3 3, .string t, x5, x6, by kernel_rfl, fun h => absurd (updL_ne h (by decide)) (by rw [h12]; decide), fun h => absurd (updL_ne h (by decide)) (by rw [h12]; decide), fun _ => ⟨hc2, grown_trans2 hgr hg2, fun h => f0 (updL_ne h (by decide)), fun h => f1 (updL_ne h (by decide)), fun h => f2 (updL_ne h (by decide)), fun h => SlN.mono (Stay.grown hbV hg2) (f3 (updL_ne h (by decide))), fun _ => ⟨t, rfl, ht⟩, fun h => f5 (updL_ne h (by decide)), fun h => f6 (updL_ne h (by decide))⟩⟩
      case s5 =>
        intro l a' w' hk hpre hJ K hK
        obtain ⟨x0, x1, x2, x3, x4, x5, x6, ha, hall, hfin, hfs⟩ := hJ
        have h12 : l 7 = false := upd_last hall hk (by decide)
        clear hall hfin
        obtain ⟨hcu, hgr, f0, f1, f2, f3, f4, f5, f6⟩ := hfs h12
        have p1 : l 1 = true := hpre 1 (by kernel_rfl)
        obtain rfl := f1 p1
        subst ha
        go_simp
        exact hK.out _ _ ⟨x0, .slice (some ⟨g, 0, none⟩) L cap, x2, x3, x4, .pointer (some ⟨g, 0, none⟩), x6, by kernel_rfl, fun h => absurd (updL_ne h (by decide)) (by rw [h12]; decide), fun h => absurd (updL_ne h (by decide)) (by rw [h12]; decide), fun _ => ⟨hcu, hgr, fun h => f0 (updL_ne h (by decide)), fun h => f1 (updL_ne h (by decide)), fun h => f2 (updL_ne h (by decide)), fun h => f3 (updL_ne h (by decide)), fun h => f4 (updL_ne h (by decide)), fun _ => rfl, fun h => f6 (updL_ne h (by decide))⟩⟩
      case s6 =>
        intro l a' w' hk hpre hJ K hK
        obtain ⟨x0, x1, x2, x3, x4, x5, x6, ha, hall, hfin, hfs⟩ := hJ
        have h12 : l 7 = false := upd_last hall hk (by decide)
        clear hall hfin
        obtain ⟨hcu, hgr, f0, f1, f2, f3, f4, f5, f6⟩ := hfs h12
        have p5 : l 5 = true := hpre 5 (by kernel_rfl)
        obtain rfl := f5 p5
        subst ha
        go_simp
        exact hK.out _ _ ⟨x0, x1, x2, x3, x4, .pointer (some ⟨g, 0, none⟩), .pointer (some ⟨g, 0, none⟩), by kernel_rfl, fun h => absurd (updL_ne h (by decide)) (by rw [h12]; decide), fun h => absurd (updL_ne h (by decide)) (by rw [h12]; decide), fun _ => ⟨hcu, hgr, fun h => f0 (updL_ne h (by decide)), fun h => f1 (updL_ne h (by decide)), fun h => f2 (updL_ne h (by decide)), fun h => f3 (updL_ne h (by decide)), fun h => f4 (updL_ne h (by decide)), fun h => f5 (updL_ne h (by decide)), fun _ => rfl⟩⟩
      case s7 =>
        intro l a' w' hk hpre hJ K hK
        obtain ⟨x0, x1, x2, x3, x4, x5, x6, ha, hall, hfin, hfs⟩ := hJ
        have h12 : l 7 = false := hk
        clear hall hfin
        obtain ⟨hcu, hgr, f0, f1, f2, f3, f4, f5, f6⟩ := hfs h12
        have p4 : l 4 = true := hpre 4 (by kernel_rfl)
        have p6 : l 6 = true := hpre 6 (by kernel_rfl)
        obtain rfl := f6 p6
        obtain ⟨t, rfl, ht⟩ := f4 p4
        have zg := (hgr.block _ hgV (by intro e; injection e; omega)).trans Hrow.out
        have yq := frozen_of_row w' _ 0 _ _ zg
        have qq := cell_at (i := 0) zg (by omega)
        subst ha
        go_simp
        exact hK.out _ _ ⟨x0, x1, x2, x3, .string t, x5, .pointer (some ⟨g, 0, none⟩), by kernel_rfl, fun _ => deep_all hpre (by kernel_rfl) _, fun _ => ⟨w', t, hcu, hgr, ht, rfl⟩, fun h => absurd h (by simp [updL])⟩
    case hend =>
      intro l a' w' hl hJ
      obtain ⟨x0, x1, x2, x3, x4, x5, x6, ha, _, hfin, _⟩ := hJ
      simp [go_sem] at ha
      subst ha
      replace hfin := hfin (hl 7 (by decide))
      clear hl
      obtain ⟨W1, t, hcu, hgr, ht, rfl⟩ := hfin
      have hW1 := Ho.out.grownT (AtrR.good 0) (by omega) hgr
      have zg1 := (hgr.block _ hgV (by intro e; injection e; omega)).trans Hrow.out
      have zb1 := (hgr.block _ hbsV (by intro e; injection e; omega)).trans Hb.out
      have za1 := (hgr.block _ haV (by intro e; injection e; omega)).trans Ha.out
      have ho1 := OwnS.setHead (k := 0) (u := .string t) (a' := ⟨t, a0.type, a0.mode, a0.circ⟩) hW1 zg1 (by decide) (fun cs h => ⟨by rw [List.length_set]; exact h.1, atr_name ha0.1 ht, by rw [List.getElem?_set_self (by rw [h.1]; decide)], by rw [List.getElem?_set_ne (by decide)]; exact h.2.2.2.1, by rw [List.getElem?_set_ne (by decide)]; exact h.2.2.2.2.1, by rw [List.getElem?_set_ne (by decide)]; exact h.2.2.2.2.2.1, rfl⟩)
      have hBs : Below w.heap.size W1 (W1.setCell ⟨g, 0, none⟩ (.string t)) := Below.setCell (p := ⟨g, 0, none⟩) (Below.refl _ _) (show w.heap.size ≤ g by omega) _
      have zb2 : (W1.setCell ⟨g, 0, none⟩ (.string t)).heap[bs]? = _ := (heap_setCell_other _ _ _ _ (by simp; omega)).trans zb1
      have za2 : (W1.setCell ⟨g, 0, none⟩ (.string t)).heap[w.heap.size]? = _ := (heap_setCell_other _ _ _ _ (by simp; omega)).trans za1
      have hc2 := hcu.baseT hBs hlt
      have hg2 := grown_baseT (grown_trans2 Hg.out hgr) hBs (Nat.le_refl _)
      have hcS : Hid (CellsAt (W1.setCell ⟨g, 0, none⟩ (.string t)) bs 0 [.string x.name, .slice (some ⟨g, 0, none⟩) L cap]) := hide fun i u hu => by
        rw [cell_of_row _ _ _ _ _ _ zb2, Nat.zero_add]
        simpa using hu
      have hzA := hide za2
      have hOw := hide ho1
      have hCu := hide hc2
      have hGr := hide hg2
      have hSh : Hid (shortY ⟨x.name, ⟨t, a0.type, a0.mode, a0.circ⟩ :: r⟩) := hide ⟨Hsh.out.1, Hsh.out.2.1, Hsh.out.2.2.1, fun a ha => by rcases List.mem_cons.1 ha with h | h; exact h ▸ ⟨atr_name ha0.1 ht, ht⟩; exact Hsh.out.2.2.2 a (List.mem_cons_of_mem _ h)⟩
      go_wp2_with (first
        | refine wpList_load_at 26 (.tmp 3) rfl Tryd.underlying26 rfl His.out rfl rfl (by rfl) hcS.out ?_
        | (refine wpList_store_at 26 (.tmp 2) (.tmp 60) (cs := [.string x.name, .slice (some ⟨g, 0, none⟩) L cap]) rfl His.out rfl rfl rfl rfl (by simp [Value.oneCell']) hzA.out (by decide) ?_; intro WF hP; have HP := hide hP; clear hP))
      obtain ⟨x0, x1⟩ := HP.out.cellsAt.two0
      have hbF : Below w.heap.size (W1.setCell ⟨g, 0, none⟩ (.string t)) WF := HP.out.below (Nat.le_refl _)
      exact bodyPost_ret (v := .agg #[.string x.name, .slice (some ⟨g, 0, none⟩) L cap]) (by simp [results, Tryd.results15, go_sem, x0, x1]) rfl ⟨⟨x.name, ⟨t, a0.type, a0.mode, a0.circ⟩ :: r⟩, _, rfl, ⟨B, hBw, OwnS.keep1 (AtrR.good 0) hOw.out (fun k hk => HP.out.far k (by have := (hOw.out.blk k hk).1; omega)) (by rw [HP.out.size]; exact Nat.le_refl _)⟩, hSh.out, hCu.out.baseT hbF hlt, grown_baseT hGr.out hbF (Nat.le_refl _)⟩
  by_cases k4 : k = 4
  · subst k4
    go_wp2_with fail
    go_loopw [48] (fun k48 wr => ∃ (ys : List Atr) (A : Option Addr) (cap : Nat), ys.length ≤ 5 ∧ 1 ≤ ys.length ∧ Hid (∀ a ∈ ys, a.ok ∧ a.name.size ≤ 32) ∧ Hid (wr.heap[bs]? = some (.cells #[.string x.name, .slice A ys.length cap] 26 (0, 0))) ∧ Hid (wr.heap[w.heap.size]? = some (.cells #[.string ⟨#[]⟩, .slice none 0 0] 26 (0, 0))) ∧ Hid (OwnS 4 (AtrR 0) B 33 wr (ys) (.slice A ys.length cap) []) ∧ Hid (Cur wr b) ∧ Hid (w.grownBy wr (some b))) (fun _ W => match W.cell? ⟨bs, 1, none⟩ with | some (.slice _ n _) => 5 - n | _ => 0)
    case atStart => exact ⟨a0 :: r, _, _, Hsh.out.2.1, Hsh.out.2.2.1, hide Hsh.out.2.2.2, hide (by rw [← HLr0.out]; exact Hb.out), Ha, hide (by rw [← HLr0.out]; exact Ho.out), Hc, Hg⟩
    case round =>
      obtain ⟨ys, A, cap, hy5', hy1, Hy, Hb4, Ha4, Ho4, Hc4, Hg4⟩ := hrel
      have q := cell_at (i := 1) Hb4.out (by simp)
      have hats : 33 ≠ 26 := by decide
      have hwrz : w.heap.size ≤ wr.heap.size := Hg4.out.size
      have hBr : B ≤ wr.heap.size := by
        obtain ⟨a9, r9, e9⟩ : ∃ a9 r9, ys = a9 :: r9 := by
          cases ys with
          | nil => simp at hy1
          | cons a9 r9 => exact ⟨a9, r9, rfl⟩
        subst e9
        obtain ⟨g9, o9, e9, h9, _, hB9⟩ := Ho4.out.head4
        exact Nat.le_trans hB9 (Nat.le_of_lt (blk_lt h9))
      by_cases hy5 : ys.length < 5
      · have hy0 : (0 : Int) ≤ (ys.length : Int) := by omega
        have hy5i : (ys.length : Int) < 5 := by omega
        go_wp2_with fail
        refine region_invA (fun a0 l a' w' => ∃ x0 x1 x2 x3 x4 x5 x6 x7 x8 x9 x10 x11 : Value, a' = ((((((((((((a0.put (some 48) x0).put (some 49) x1).put (some 50) x2).put (some 51) x3).put (some 52) x4).put (some 53) x5).put (some 54) x6).put (some 55) x7).put (some 56) x8).put (some 57) x9).put (some 58) x10).put (some 59) x11) ∧ (l 12 = true → ∀ i, i < 12 → l i = true) ∧ (l 12 = true → ∃ (W1 : World) (s : ByteArray) (A8 : Option Addr) (cap8 : Nat), Cur W1 b ∧ w.grownBy W1 (some b) ∧ W1.heap[bs]? = some (.cells #[.string x.name, .slice A ys.length cap] 26 (0, 0)) ∧ W1.heap[w.heap.size]? = some (.cells #[.string ⟨#[]⟩, .slice none 0 0] 26 (0, 0)) ∧ s.size ≤ 32 ∧ OwnS 4 (AtrR 0) B 33 W1 (ys ++ [⟨s, 1, 2, false⟩]) (.slice A8 (ys.length + 1) cap8) [] ∧ w' = W1.setCell ⟨bs, 1, none⟩ (.slice A8 (ys.length + 1) cap8)) ∧ (l 12 = false → Cur w' b ∧ w.grownBy w' (some b) ∧ w'.heap[bs]? = some (.cells #[.string x.name, .slice A ys.length cap] 26 (0, 0)) ∧ w'.heap[w.heap.size]? = some (.cells #[.string ⟨#[]⟩, .slice none 0 0] 26 (0, 0)) ∧ wr.heap.size ≤ w'.heap.size ∧ (l 10 = false → OwnS 4 (AtrR 0) B 33 w' (ys) (.slice A ys.length cap) []) ∧ (l 0 = true → x0 = .pointer (some ⟨bs, 1, none⟩)) ∧ (l 1 = true → x1 = .slice A ys.length cap) ∧ (l 2 = true → SlN wr.heap.size w' x2 #[.string ⟨#[101]⟩, .string ⟨#[102]⟩, .string ⟨#[103]⟩, .string ⟨#[104]⟩, .string ⟨#[105]⟩] 9 5) ∧ (l 3 = true → x3 = .pointer (some ⟨bs, 1, none⟩)) ∧ (l 4 = true → x4 = .slice A ys.length cap) ∧ (l 5 = true → x5 = .int .i64 (ys.length : Int)) ∧ (l 6 = true → PtN wr.heap.size w' x6 #[.string ⟨#[101]⟩, .string ⟨#[102]⟩, .string ⟨#[103]⟩, .string ⟨#[104]⟩, .string ⟨#[105]⟩] 9 ys.length) ∧ (l 7 = true → ∃ s : ByteArray, x7 = .string s ∧ s.size ≤ 32) ∧ (l 8 = true → ∃ s : ByteArray, x8 = .agg #[.string s, .int .i64 1, .int .i64 2, .bool false] ∧ s.size ≤ 32) ∧ (l 9 = true → ∃ s : ByteArray, s.size ≤ 32 ∧ SlN wr.heap.size w' x9 #[.string s, .int .i64 1, .int .i64 2, .bool false] 33 1) ∧ (l 10 = true → ∃ (s : ByteArray) (A8 : Option Addr) (cap8 : Nat), s.size ≤ 32 ∧ x10 = .slice A8 (ys.length + 1) cap8 ∧ OwnS 4 (AtrR 0) B 33 w' (ys ++ [⟨s, 1, 2, false⟩]) (.slice A8 (ys.length + 1) cap8) []) ∧ (l 11 = true → x11 = .pointer (some ⟨bs, 1, none⟩)))) rfl (by kernel_rfl) ?h0 ?hstep ?hend
        case h0 => exact ⟨u48, u49, u50, u51, u52, u53, u54, u55, u56, u57, u58, u59, by kernel_rfl, fun h => absurd h (by decide), fun h => absurd h (by decide), fun _ => ⟨Hc4.out.below (Below.refl _ _).drew, ⟨Hg4.out.os, Hg4.out.tape, Hg4.out.output, Hg4.out.size, Hg4.out.block⟩, Hb4.out, Ha4.out, Nat.le_refl _, fun _ => Ho4.out.below (AtrR.good 0) (Below.refl _ _).drew, fun h => absurd h (by decide), fun h => absurd h (by decide), fun h => absurd h (by decide), fun h => absurd h (by decide), fun h => absurd h (by decide), fun h => absurd h (by decide), fun h => absurd h (by decide), fun h => absurd h (by decide), fun h => absurd h (by decide), fun h => absurd h (by decide), fun h => absurd h (by decide), fun h => absurd h (by decide)⟩⟩
        case hstep =>
          refine ⟨?s0, ?s1, ?s2, ?s3, ?s4, ?s5, ?s6, ?s7, ?s8, ?s9, ?s10, ?s11, ?s12, trivial⟩
          case s0 =>
            intro l a' w' hk hpre hJ K hK
            obtain ⟨x0, x1, x2, x3, x4, x5, x6, x7, x8, x9, x10, x11, ha, hall, hfin, hfs⟩ := hJ
            have h12 : l 12 = false := upd_last hall hk (by decide)
            clear hall hfin
            obtain ⟨hcu, hgr, hbx, hza, hsz, hrw, f0, f1, f2, f3, f4, f5, f6, f7, f8, f9, f10, f11⟩ := hfs h12
            subst ha
            go_simp
            exact hK.out _ _ ⟨.pointer (some ⟨bs, 1, none⟩), x1, x2, x3, x4, x5, x6, x7, x8, x9, x10, x11, by kernel_rfl, fun h => absurd (updL_ne h (by decide)) (by rw [h12]; decide), fun h => absurd (updL_ne h (by decide)) (by rw [h12]; decide), fun _ => ⟨hcu, hgr, hbx, hza, hsz, fun h => hrw (updL_f h), fun _ => rfl, fun h => f1 (updL_ne h (by decide)), fun h => f2 (updL_ne h (by decide)), fun h => f3 (updL_ne h (by decide)), fun h => f4 (updL_ne h (by decide)), fun h => f5 (updL_ne h (by decide)), fun h => f6 (updL_ne h (by decide)), fun h => f7 (updL_ne h (by decide)), fun h => f8 (updL_ne h (by decide)), fun h => f9 (updL_ne h (by decide)), fun h => f10 (updL_ne h (by decide)), fun h => f11 (updL_ne h (by decide))⟩⟩
          case s1 =>
            intro l a' w' hk hpre hJ K hK
            obtain ⟨x0, x1, x2, x3, x4, x5, x6, x7, x8, x9, x10, x11, ha, hall, hfin, hfs⟩ := hJ
            have h12 : l 12 = false := upd_last hall hk (by decide)
            clear hall hfin
            obtain ⟨hcu, hgr, hbx, hza, hsz, hrw, f0, f1, f2, f3, f4, f5, f6, f7, f8, f9, f10, f11⟩ := hfs h12
            have p0 : l 0 = true := hpre 0 (by kernel_rfl)
            obtain rfl := f0 p0
            have q := cell_at (i := 1) hbx (by simp)
            subst ha
            go_simp
            exact hK.out _ _ ⟨.pointer (some ⟨bs, 1, none⟩), .slice A ys.length cap, x2, x3, x4, x5, x6, x7, x8, x9, x10, x11, by kernel_rfl, fun h => absurd (updL_ne h (by decide)) (by rw [h12]; decide), fun h => absurd (updL_ne h (by decide)) (by rw [h12]; decide), fun _ => ⟨hcu, hgr, hbx, hza, hsz, fun h => hrw (updL_f h), fun h => f0 (updL_ne h (by decide)), fun _ => rfl, fun h => f2 (updL_ne h (by decide)), fun h => f3 (updL_ne h (by decide)), fun h => f4 (updL_ne h (by decide)), fun h => f5 (updL_ne h (by decide)), fun h => f6 (updL_ne h (by decide)), fun h => f7 (updL_ne h (by decide)), fun h => f8 (updL_ne h (by decide)), fun h => f9 (updL_ne h (by decide)), fun h => f10 (updL_ne h (by decide)), fun h => f11 (updL_ne h (by decide))⟩⟩
          case s2 =>
            intro l a' w' hk hpre hJ K hK
            obtain ⟨x0, x1, x2, x3, x4, x5, x6, x7, x8, x9, x10, x11, ha, hall, hfin, hfs⟩ := hJ
            have h12 : l 12 = false := upd_last hall hk (by decide)
            clear hall hfin
            obtain ⟨hcu, hgr, hbx, hza, hsz, hrw, f0, f1, f2, f3, f4, f5, f6, f7, f8, f9, f10, f11⟩ := hfs h12
            subst ha
            go_simp
            exact hK.out _ _ ⟨x0, x1, .slice (some ⟨w'.heap.size, 0, none⟩) 5 5, x3, x4, x5, x6, x7, x8, x9, x10, x11, by kernel_rfl, fun h => absurd (updL_ne h (by decide)) (by rw [h12]; decide), fun h => absurd (updL_ne h (by decide)) (by rw [h12]; decide), fun _ => ⟨hcu.below ((Below.refl _ _).alloc (Nat.le_refl _) _), grown_baseT hgr ((Below.refl _ _).alloc (Nat.le_refl _) _) hgr.size, blk_below hbx ((Below.refl _ _).alloc (Nat.le_refl _) _) (blk_lt hbx), blk_below hza ((Below.refl _ _).alloc (Nat.le_refl _) _) (blk_lt hza), Nat.le_trans hsz ((Below.refl _ _).alloc (Nat.le_refl _) _).size, fun h => (hrw (updL_f h)).below (AtrR.good 0) ((Below.refl _ _).alloc (Nat.le_refl _) _), fun h => f0 (updL_ne h (by decide)), fun h => f1 (updL_ne h (by decide)), fun _ => ⟨_, rfl, New.made hsz _ _⟩, fun h => f3 (updL_ne h (by decide)), fun h => f4 (updL_ne h (by decide)), fun h => f5 (updL_ne h (by decide)), fun h => PtN.mono (Stay.alloc _ _ _) (f6 (updL_ne h (by decide))), fun h => f7 (updL_ne h (by decide)), fun h => f8 (updL_ne h (by decide)), fun h => ElN.mono (Stay.alloc _ _ _) (f9 (updL_ne h (by decide))), fun h => Exists.imp (fun _ => Exists.imp fun _ => Exists.imp fun _ h => ⟨h.1, h.2.1, h.2.2.below (AtrR.good 0) ((Below.refl _ _).alloc (Nat.le_refl _) _)⟩) (f10 (updL_ne h (by decide))), fun h => f11 (updL_ne h (by decide))⟩⟩
          case s3 =>
            intro l a' w' hk hpre hJ K hK
            obtain ⟨x0, x1, x2, x3, x4, x5, x6, x7, x8, x9, x10, x11, ha, hall, hfin, hfs⟩ := hJ
            have h12 : l 12 = false := upd_last hall hk (by decide)
            clear hall hfin
            obtain ⟨hcu, hgr, hbx, hza, hsz, hrw, f0, f1, f2, f3, f4, f5, f6, f7, f8, f9, f10, f11⟩ := hfs h12
            subst ha
            go_simp
            exact hK.out _ _ ⟨x0, x1, x2, .pointer (some ⟨bs, 1, none⟩), x4, x5, x6, x7, x8, x9, x10, x11, by kernel_rfl, fun h => absurd (updL_ne h (by decide)) (by rw [h12]; decide), fun h => absurd (updL_ne h (by decide)) (by rw [h12]; decide), fun _ => ⟨hcu, hgr, hbx, hza, hsz, fun h => hrw (updL_f h), fun h => f0 (updL_ne h (by decide)), fun h => f1 (updL_ne h (by decide)), fun h => f2 (updL_ne h (by decide)), fun _ => rfl, fun h => f4 (updL_ne h (by decide)), fun h => f5 (updL_ne h (by decide)), fun h => f6 (updL_ne h (by decide)), fun h => f7 (updL_ne h (by decide)), fun h => f8 (updL_ne h (by decide)), fun h => f9 (updL_ne h (by decide)), fun h => f10 (updL_ne h (by decide)), fun h => f11 (updL_ne h (by decide))⟩⟩
          case s4 =>
            intro l a' w' hk hpre hJ K hK
            obtain ⟨x0, x1, x2, x3, x4, x5, x6, x7, x8, x9, x10, x11, ha, hall, hfin, hfs⟩ := hJ
            have h12 : l 12 = false := upd_last hall hk (by decide)
            clear hall hfin
            obtain ⟨hcu, hgr, hbx, hza, hsz, hrw, f0, f1, f2, f3, f4, f5, f6, f7, f8, f9, f10, f11⟩ := hfs h12
            have p3 : l 3 = true := hpre 3 (by kernel_rfl)
            obtain rfl := f3 p3
            have q := cell_at (i := 1) hbx (by simp)
            subst ha
            go_simp
            exact hK.out _ _ ⟨x0, x1, x2, .pointer (some ⟨bs, 1, none⟩), .slice A ys.length cap, x5, x6, x7, x8, x9, x10, x11, by kernel_rfl, fun h => absurd (updL_ne h (by decide)) (by rw [h12]; decide), fun h => absurd (updL_ne h (by decide)) (by rw [h12]; decide), fun _ => ⟨hcu, hgr, hbx, hza, hsz, fun h => hrw (updL_f h), fun h => f0 (updL_ne h (by decide)), fun h => f1 (updL_ne h (by decide)), fun h => f2 (updL_ne h (by decide)), fun h => f3 (updL_ne h (by decide)), fun _ => rfl, fun h => f5 (updL_ne h (by decide)), fun h => f6 (updL_ne h (by decide)), fun h => f7 (updL_ne h (by decide)), fun h => f8 (updL_ne h (by decide)), fun h => f9 (updL_ne h (by decide)), fun h => f10 (updL_ne h (by decide)), fun h => f11 (updL_ne h (by decide))⟩⟩
          case s5 =>
            intro l a' w' hk hpre hJ K hK
            obtain ⟨x0, x1, x2, x3, x4, x5, x6, x7, x8, x9, x10, x11, ha, hall, hfin, hfs⟩ := hJ
            have h12 : l 12 = false := upd_last hall hk (by decide)
            clear hall hfin
            obtain ⟨hcu, hgr, hbx, hza, hsz, hrw, f0, f1, f2, f3, f4, f5, f6, f7, f8, f9, f10, f11⟩ := hfs h12
            have p4 : l 4 = true := hpre 4 (by kernel_rfl)
            obtain rfl := f4 p4
            subst ha
            go_simp
            exact hK.out _ _ ⟨x0, x1, x2, x3, .slice A ys.length cap, .int .i64 (ys.length : Int), x6, x7, x8, x9, x10, x11, by kernel_rfl, fun h => absurd (updL_ne h (by decide)) (by rw [h12]; decide), fun h => absurd (updL_ne h (by decide)) (by rw [h12]; decide), fun _ => ⟨hcu, hgr, hbx, hza, hsz, fun h => hrw (updL_f h), fun h => f0 (updL_ne h (by decide)), fun h => f1 (updL_ne h (by decide)), fun h => f2 (updL_ne h (by decide)), fun h => f3 (updL_ne h (by decide)), fun h => f4 (updL_ne h (by decide)), fun _ => rfl, fun h => f6 (updL_ne h (by decide)), fun h => f7 (updL_ne h (by decide)), fun h => f8 (updL_ne h (by decide)), fun h => f9 (updL_ne h (by decide)), fun h => f10 (updL_ne h (by decide)), fun h => f11 (updL_ne h (by decide))⟩⟩
          case s6 =>
            intro l a' w' hk hpre hJ K hK
            obtain ⟨x0, x1, x2, x3, x4, x5, x6, x7, x8, x9, x10, x11, ha, hall, hfin, hfs⟩ := hJ
            have h12 : l 12 = false := upd_last hall hk (by decide)
            clear hall hfin
            obtain ⟨hcu, hgr, hbx, hza, hsz, hrw, f0, f1, f2, f3, f4, f5, f6, f7, f8, f9, f10, f11⟩ := hfs h12
            have p2 : l 2 = true := hpre 2 (by kernel_rfl)
            have p5 : l 5 = true := hpre 5 (by kernel_rfl)
            obtain ⟨gs, rfl, hgs⟩ := f2 p2
            obtain rfl := f5 p5
            subst ha
            go_simp
            exact hK.out _ _ ⟨x0, x1, .slice (some ⟨gs, 0, none⟩) 5 5, x3, x4, .int .i64 (ys.length : Int), .pointer (some ⟨gs, ys.length, none⟩), x7, x8, x9, x10, x11, by kernel_rfl, fun h => absurd (updL_ne h (by decide)) (by rw [h12]; decide), fun h => absurd (updL_ne h (by decide)) (by rw [h12]; decide), fun _ => ⟨hcu, hgr, hbx, hza, hsz, fun h => hrw (updL_f h), fun h => f0 (updL_ne h (by decide)), fun h => f1 (updL_ne h (by decide)), fun h => f2 (updL_ne h (by decide)), fun h => f3 (updL_ne h (by decide)), fun h => f4 (updL_ne h (by decide)), fun h => f5 (updL_ne h (by decide)), fun _ => ⟨gs, rfl, hgs⟩, fun h => f7 (updL_ne h (by decide)), fun h => f8 (updL_ne h (by decide)), fun h => f9 (updL_ne h (by decide)), fun h => f10 (updL_ne h (by decide)), fun h => f11 (updL_ne h (by decide))⟩⟩
          case s7 =>
            intro l a' w' hk hpre hJ K hK
            obtain ⟨x0, x1, x2, x3, x4, x5, x6, x7, x8, x9, x10, x11, ha, hall, hfin, hfs⟩ := hJ
            have h12 : l 12 = false := upd_last hall hk (by decide)
            clear hall hfin
            obtain ⟨hcu, hgr, hbx, hza, hsz, hrw, f0, f1, f2, f3, f4, f5, f6, f7, f8, f9, f10, f11⟩ := hfs h12
            have p6 : l 6 = true := hpre 6 (by kernel_rfl)
            obtain ⟨gs, rfl, hgs⟩ := f6 p6
            obtain ⟨s, hs, hsz32⟩ := letter_at5 hgs hy5
            subst ha
            go_simp
            exact hK.out _ _ ⟨x0, x1, x2, x3, x4, x5, .pointer (some ⟨gs, ys.length, none⟩), .string s, x8, x9, x10, x11, by kernel_rfl, fun h => absurd (updL_ne h (by decide)) (by rw [h12]; decide), fun h => absurd (updL_ne h (by decide)) (by rw [h12]; decide), fun _ => ⟨hcu, hgr, hbx, hza, hsz, fun h => hrw (updL_f h), fun h => f0 (updL_ne h (by decide)), fun h => f1 (updL_ne h (by decide)), fun h => f2 (updL_ne h (by decide)), fun h => f3 (updL_ne h (by decide)), fun h => f4 (updL_ne h (by decide)), fun h => f5 (updL_ne h (by decide)), fun h => f6 (updL_ne h (by decide)), fun _ => ⟨s, rfl, hsz32⟩, fun h => f8 (updL_ne h (by decide)), fun h => f9 (updL_ne h (by decide)), fun h => f10 (updL_ne h (by decide)), fun h => f11 (updL_ne h (by decide))⟩⟩
          case s8 =>
            intro l a' w' hk hpre hJ K hK
            obtain ⟨x0, x1, x2, x3, x4, x5, x6, x7, x8, x9, x10, x11, ha, hall, hfin, hfs⟩ := hJ
            have h12 : l 12 = false := upd_last hall hk (by decide)
            clear hall hfin
            obtain ⟨hcu, hgr, hbx, hza, hsz, hrw, f0, f1, f2, f3, f4, f5, f6, f7, f8, f9, f10, f11⟩ := hfs h12
            have p7 : l 7 = true := hpre 7 (by kernel_rfl)
            obtain ⟨s, rfl, hs⟩ := f7 p7
            subst ha
            go_simp
            exact hK.out _ _ ⟨x0, x1, x2, x3, x4, x5, x6, .string s, .agg #[.string s, .int .i64 1, .int .i64 2, .bool false], x9, x10, x11, by kernel_rfl, fun h => absurd (updL_ne h (by decide)) (by rw [h12]; decide), fun h => absurd (updL_ne h (by decide)) (by rw [h12]; decide), fun _ => ⟨hcu, hgr, hbx, hza, hsz, fun h => hrw (updL_f h), fun h => f0 (updL_ne h (by decide)), fun h => f1 (updL_ne h (by decide)), fun h => f2 (updL_ne h (by decide)), fun h => f3 (updL_ne h (by decide)), fun h => f4 (updL_ne h (by decide)), fun h => f5 (updL_ne h (by decide)), fun h => f6 (updL_ne h (by decide)), fun h => f7 (updL_ne h (by decide)), fun _ => ⟨s, rfl, hs⟩, fun h => f9 (updL_ne h (by decide)), fun h => f10 (updL_ne h (by decide)), fun h => f11 (updL_ne h (by decide))⟩⟩
          case s9 =>
            intro l a' w' hk hpre hJ K hK
            obtain ⟨x0, x1, x2, x3, x4, x5, x6, x7, x8, x9, x10, x11, ha, hall, hfin, hfs⟩ := hJ
            have h12 : l 12 = false := upd_last hall hk (by decide)
            clear hall hfin
            obtain ⟨hcu, hgr, hbx, hza, hsz, hrw, f0, f1, f2, f3, f4, f5, f6, f7, f8, f9, f10, f11⟩ := hfs h12
            have p8 : l 8 = true := hpre 8 (by kernel_rfl)
            obtain ⟨s, rfl, hs⟩ := f8 p8
            subst ha
            go_simp
            exact hK.out _ _ ⟨x0, x1, x2, x3, x4, x5, x6, x7, .agg #[.string s, .int .i64 1, .int .i64 2, .bool false], .slice (some ⟨w'.heap.size, 0, none⟩) 1 1, x10, x11, by kernel_rfl, fun h => absurd (updL_ne h (by decide)) (by rw [h12]; decide), fun h => absurd (updL_ne h (by decide)) (by rw [h12]; decide), fun _ => ⟨hcu.below ((Below.refl _ _).alloc (Nat.le_refl _) _), grown_baseT hgr ((Below.refl _ _).alloc (Nat.le_refl _) _) hgr.size, blk_below hbx ((Below.refl _ _).alloc (Nat.le_refl _) _) (blk_lt hbx), blk_below hza ((Below.refl _ _).alloc (Nat.le_refl _) _) (blk_lt hza), Nat.le_trans hsz ((Below.refl _ _).alloc (Nat.le_refl _) _).size, fun h => (hrw (updL_f h)).below (AtrR.good 0) ((Below.refl _ _).alloc (Nat.le_refl _) _), fun h => f0 (updL_ne h (by decide)), fun h => f1 (updL_ne h (by decide)), fun h => SlN.mono (Stay.alloc _ _ _) (f2 (updL_ne h (by decide))), fun h => f3 (updL_ne h (by decide)), fun h => f4 (updL_ne h (by decide)), fun h => f5 (updL_ne h (by decide)), fun h => PtN.mono (Stay.alloc _ _ _) (f6 (updL_ne h (by decide))), fun h => f7 (updL_ne h (by decide)), fun h => f8 (updL_ne h (by decide)), fun _ => ⟨s, hs, _, rfl, New.made hsz _ _⟩, fun h => Exists.imp (fun _ => Exists.imp fun _ => Exists.imp fun _ h => ⟨h.1, h.2.1, h.2.2.below (AtrR.good 0) ((Below.refl _ _).alloc (Nat.le_refl _) _)⟩) (f10 (updL_ne h (by decide))), fun h => f11 (updL_ne h (by decide))⟩⟩
          case s10 =>
            intro l a' w' hk hpre hJ K hK
            obtain ⟨x0, x1, x2, x3, x4, x5, x6, x7, x8, x9, x10, x11, ha, hall, hfin, hfs⟩ := hJ
            have h12 : l 12 = false := upd_last hall hk (by decide)
            clear hall hfin
            obtain ⟨hcu, hgr, hbx, hza, hsz, hrw, f0, f1, f2, f3, f4, f5, f6, f7, f8, f9, f10, f11⟩ := hfs h12
            have p1 : l 1 = true := hpre 1 (by kernel_rfl)
            have p9 : l 9 = true := hpre 9 (by kernel_rfl)
            obtain rfl := f1 p1
            obtain ⟨s, hs, gs, rfl, hgs⟩ := f9 p9
            have hrow := hrw hk
            refine step_ownP rfl (.tmp 49) (.tmp 57) 24 33 rfl Tryd.underlying24 infoAtr2 rfl (by decide) (AtrR.good 0) w' B (.slice A ys.length cap) ys hrow (by rw [ha]; kernel_rfl) ⟨s, 1, 2, false⟩ [.string s, .int .i64 1, .int .i64 2, .bool false] ⟨rfl, atr_ok hs (by decide) (by decide) (by decide) (by decide), rfl, rfl, rfl, rfl, rfl⟩ (by simp [Value.oneCell']) gs (by rw [ha]; kernel_rfl) hgs.2 (by omega) (by omega) (by omega) ?_
            intro v8 w8 hown8 hgr8 hwh8
            obtain ⟨A8, cap8, hv8, _, _⟩ := hown8.form
            rw [show (ys ++ [(⟨s, 1, 2, false⟩ : Atr)]).length = ys.length + 1 from by simp] at hv8
            subst hv8
            have hrb : ∀ k, (Value.slice A ys.length cap).ownBlock = some k → B ≤ k ∧ k < wr.heap.size ∧ k ≠ bs := fun k hk2 => ⟨(hrow.blk k hk2).1, (Ho4.out.blk k hk2).2, hrow.ne hbx hats k hk2⟩
            have hBg : Below w.heap.size w' w8 := (Below.refl _ _).grown hgr8 (by omega) (fun k hk2 => by have := (hrb k hk2).1; omega)
            subst ha
            exact hK.out _ _ ⟨x0, .slice A ys.length cap, x2, x3, x4, x5, x6, x7, x8, .slice (some ⟨gs, 0, none⟩) 1 1, .slice A8 (ys.length + 1) cap8, x11, by kernel_rfl, fun h => absurd (updL_ne h (by decide)) (by rw [h12]; decide), fun h => absurd (updL_ne h (by decide)) (by rw [h12]; decide), fun _ => ⟨hcu.baseT hBg hlt, grown_baseT hgr hBg (Nat.le_refl _), (hgr8.block _ (blk_lt hbx) (fun e => (hrb bs e.symm).2.2 rfl)).trans hbx, (hgr8.block _ (blk_lt hza) (fun e => by have := (hrb _ e.symm).1; omega)).trans hza, Nat.le_trans hsz hgr8.size, fun h => absurd h (by simp [updL]), fun h => f0 (updL_ne h (by decide)), fun h => f1 (updL_ne h (by decide)), fun h => SlN.mono (Stay.row hgr8 (fun k hk2 => (hrb k hk2).2.1)) (f2 (updL_ne h (by decide))), fun h => f3 (updL_ne h (by decide)), fun h => f4 (updL_ne h (by decide)), fun h => f5 (updL_ne h (by decide)), fun h => PtN.mono (Stay.row hgr8 (fun k hk2 => (hrb k hk2).2.1)) (f6 (updL_ne h (by decide))), fun h => f7 (updL_ne h (by decide)), fun h => f8 (updL_ne h (by decide)), fun h => ElN.mono (Stay.row hgr8 (fun k hk2 => (hrb k hk2).2.1)) (f9 (updL_ne h (by decide))), fun _ => ⟨s, A8, cap8, hs, rfl, hown8⟩, fun h => f11 (updL_ne h (by decide))⟩⟩
          case s11 =>
            intro l a' w' hk hpre hJ K hK
            obtain ⟨x0, x1, x2, x3, x4, x5, x6, x7, x8, x9, x10, x11, ha, hall, hfin, hfs⟩ := hJ
            have h12 : l 12 = false := upd_last hall hk (by decide)
            clear hall hfin
            obtain ⟨hcu, hgr, hbx, hza, hsz, hrw, f0, f1, f2, f3, f4, f5, f6, f7, f8, f9, f10, f11⟩ := hfs h12
            subst ha
            go_simp
            exact hK.out _ _ ⟨x0, x1, x2, x3, x4, x5, x6, x7, x8, x9, x10, .pointer (some ⟨bs, 1, none⟩), by kernel_rfl, fun h => absurd (updL_ne h (by decide)) (by rw [h12]; decide), fun h => absurd (updL_ne h (by decide)) (by rw [h12]; decide), fun _ => ⟨hcu, hgr, hbx, hza, hsz, fun h => hrw (updL_f h), fun h => f0 (updL_ne h (by decide)), fun h => f1 (updL_ne h (by decide)), fun h => f2 (updL_ne h (by decide)), fun h => f3 (updL_ne h (by decide)), fun h => f4 (updL_ne h (by decide)), fun h => f5 (updL_ne h (by decide)), fun h => f6 (updL_ne h (by decide)), fun h => f7 (updL_ne h (by decide)), fun h => f8 (updL_ne h (by decide)), fun h => f9 (updL_ne h (by decide)), fun h => f10 (updL_ne h (by decide)), fun _ => rfl⟩⟩
          case s12 =>
            intro l a' w' hk hpre hJ K hK
            obtain ⟨x0, x1, x2, x3, x4, x5, x6, x7, x8, x9, x10, x11, ha, hall, hfin, hfs⟩ := hJ
            have h12 : l 12 = false := hk
            clear hall hfin
            obtain ⟨hcu, hgr, hbx, hza, hsz, hrw, f0, f1, f2, f3, f4, f5, f6, f7, f8, f9, f10, f11⟩ := hfs h12
            have p10 : l 10 = true := hpre 10 (by kernel_rfl)
            have p11 : l 11 = true := hpre 11 (by kernel_rfl)
            obtain ⟨s, A8, cap8, hs, rfl, hown8⟩ := f10 p10
            obtain rfl := f11 p11
            have q := cell_at (i := 1) hbx (by simp)
            have y := frozen_of_row w' _ 1 _ _ hbx
            subst ha
            go_simp
            exact hK.out _ _ ⟨x0, x1, x2, x3, x4, x5, x6, x7, x8, x9, .slice A8 (ys.length + 1) cap8, .pointer (some ⟨bs, 1, none⟩), by kernel_rfl, fun _ => deep_all hpre (by kernel_rfl) _, fun _ => ⟨w', s, A8, cap8, hcu, hgr, hbx, hza, hs, hown8, rfl⟩, fun h => absurd h (by simp [updL])⟩
        case hend =>
          intro l a' w' hl hJ
          obtain ⟨x0, x1, x2, x3, x4, x5, x6, x7, x8, x9, x10, x11, ha, _, hfin, _⟩ := hJ
          simp [go_sem] at ha
          subst ha
          replace hfin := hfin (hl 12 (by decide))
          clear hl
          obtain ⟨W1, s, A8, cap8, hcu, hgr, hbx, hza, hs, hown8, rfl⟩ := hfin
          have hne := hown8.ne hbx hats
          have hBs : Below w.heap.size W1 (W1.setCell ⟨bs, 1, none⟩ (.slice A8 (ys.length + 1) cap8)) := Below.setCell (p := ⟨bs, 1, none⟩) (Below.refl _ _) (show w.heap.size ≤ bs by omega) _
          have zb9 := heap_setCell_same W1 bs 1 _ _ (.slice A8 (ys.length + 1) cap8) hbx
          have za9 := (heap_setCell_other W1 ⟨bs, 1, none⟩ w.heap.size (.slice A8 (ys.length + 1) cap8) (by simp; omega)).trans hza
          have ho9 := hide (OwnS.keep1 (AtrR.good 0) hown8 (fun k hk => heap_setCell_other W1 ⟨bs, 1, none⟩ k (.slice A8 (ys.length + 1) cap8) (by simpa using hne k hk)) (by simp))
          have Hc9 := hide (hcu.baseT hBs hlt)
          have Hg9 := hide (grown_baseT hgr hBs (Nat.le_refl _))
          have Hb9 := hide zb9
          have Ha9 := hide za9
          have Hs9 := hide hs
          have qm : ((W1.setCell ⟨bs, 1, none⟩ (.slice A8 (ys.length + 1) cap8))).cell? ⟨bs, 1, none⟩ = some (.slice A8 (ys.length + 1) cap8) := by
            rw [cell_of_row _ _ _ _ _ _ zb9]
            rfl
          have qm0 := cell_at (i := 1) Hb4.out (by simp)
          clear hcu hgr hbx hza hs hown8 zb9 za9 hBs hne
          go_wp2_with fail
          go_roundw
          case rel => exact ⟨ys ++ [⟨s, 1, 2, false⟩], A8, cap8, by simp; omega, by simp, hide (fun a ha => by rcases List.mem_append.1 ha with h | h; exact Hy.out a h; rw [List.mem_singleton.1 h]; exact ⟨atr_ok Hs9.out (by decide) (by decide) (by decide) (by decide), Hs9.out⟩), hide (by rw [List.length_append]; exact Hb9.out), Ha9, hide (by rw [List.length_append]; exact ho9.out), Hc9, Hg9⟩
          case measure => rw [qm, qm0]; simp; omega
      · have hq5 : ¬ ((ys.length : Int) < 5) := by omega
        have hcS : Hid (CellsAt wr bs 0 [.string x.name, .slice A ys.length cap]) := hide fun i u hu => by
          rw [cell_of_row _ _ _ _ _ _ Hb4.out, Nat.zero_add]
          simpa using hu
        have hzA := hide Ha4.out
        have hOw := hide Ho4.out
        have hCu := hide Hc4.out
        have hGr := hide Hg4.out
        have hSh : Hid (shortY ⟨x.name, ys⟩) := hide ⟨Hsh.out.1, hy5', hy1, Hy.out⟩
        go_wp2_with (first
          | refine wpList_load_at 26 (.tmp 3) rfl Tryd.underlying26 rfl His.out rfl rfl (by rfl) hcS.out ?_
          | (refine wpList_store_at 26 (.tmp 2) (.tmp 60) (cs := [.string x.name, .slice A ys.length cap]) rfl His.out rfl rfl rfl rfl (by simp [Value.oneCell']) hzA.out (by decide) ?_; intro WF hP; have HP := hide hP; clear hP))
        obtain ⟨x0, x1⟩ := HP.out.cellsAt.two0
        have hbF : Below w.heap.size wr WF := HP.out.below (Nat.le_refl _)
        exact bodyPost_ret (v := .agg #[.string x.name, .slice A ys.length cap]) (by simp [results, Tryd.results15, go_sem, x0, x1]) rfl ⟨⟨x.name, ys⟩, _, rfl, ⟨B, hBw, OwnS.keep1 (AtrR.good 0) hOw.out (fun k hk => HP.out.far k (by have := (hOw.out.blk k hk).1; omega)) (by rw [HP.out.size]; exact Nat.le_refl _)⟩, hSh.out, hCu.out.baseT hbF hlt, grown_baseT hGr.out hbF (Nat.le_refl _)⟩

  have q0 : (k == 0) = false := by simpa using k0
  have q1 : (k == 1) = false := by simpa using k1
  have q2 : (k == 2) = false := by simpa using k2
  have q3 : (k == 3) = false := by simpa using k3
  have q4 : (k == 4) = false := by simpa using k4
  clear k0 k1 k2 k3 k4
  have hcS : Hid (CellsAt V bs 0 [.string x.name, .slice (some ⟨g, 0, none⟩) L cap]) := hide fun i u hu => by
    rw [cell_of_row _ _ _ _ _ _ Hb.out, Nat.zero_add]
    simpa using hu
  have hzA := hide Ha.out
  have hOw := hide Ho.out
  have hCu := hide Hc.out
  have hGr := hide Hg.out
  have hSh : Hid (shortY ⟨x.name, a0 :: r⟩) := hide Hsh.out
  go_wp2_with (first
    | refine wpList_load_at 26 (.tmp 3) rfl Tryd.underlying26 rfl His.out rfl rfl (by rfl) hcS.out ?_
    | (refine wpList_store_at 26 (.tmp 2) (.tmp 60) (cs := [.string x.name, .slice (some ⟨g, 0, none⟩) L cap]) rfl His.out rfl rfl rfl rfl (by simp [Value.oneCell']) hzA.out (by decide) ?_; intro WF hP; have HP := hide hP; clear hP))
  obtain ⟨x0, x1⟩ := HP.out.cellsAt.two0
  have hbF : Below w.heap.size V WF := HP.out.below (Nat.le_refl _)
  exact bodyPost_ret (v := .agg #[.string x.name, .slice (some ⟨g, 0, none⟩) L cap]) (by simp [results, Tryd.results15, go_sem, x0, x1]) rfl ⟨⟨x.name, a0 :: r⟩, _, rfl, ⟨B, hBw, OwnS.keep1 (AtrR.good 0) hOw.out (fun k hk => HP.out.far k (by have := (hOw.out.blk k hk).1; omega)) (by rw [HP.out.size]; exact Nat.le_refl _)⟩, hSh.out, hCu.out.baseT hbF hlt, grown_baseT hGr.out hbF (Nat.le_refl _)⟩
end Go.Proofs.YtilndebjnibgjaaDoor
