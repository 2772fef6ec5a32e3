/- Several texts of one proof in one file: An occurrence put in its place, once: the reference's l4Before and l4Put. Conditions: each theorem names its own. -/
import Derived.Test.YthlhhnnlbpecnaaGreatGcsaz
import Derived.Test.YthlhhnnlbpecnaaGreatGcsbb
import Derived.Deep.QuietTactic

/- An occurrence put in its place, once: the reference's l4Before and l4Put. Conditions: at most 2^21 occurrences. -/
namespace Go.Proofs.YthlhhnnlbpecnaaGreat
set_option linter.unusedSimpArgs false
set_option linter.unusedVariables false
set_option maxRecDepth 100000
open Go.RowKit Go.WideShapes
set_option linter.unusedVariables false

theorem t_before (x y : Occ) (w : World) : Calls Tryz.prog 171 #[.agg #[.int .i64 x.pos, .string x.name], .agg #[.int .i64 y.pos, .string y.name]] w fun e w' => e = .returned (.bool (decide (occLt x y))) ∧ Below w.heap.size w w' := by
  have hb : Below w.heap.size w ((w.alloc (.cells #[.int .i64 x.pos, .string x.name] 81)).alloc (.cells #[.int .i64 y.pos, .string y.name] 81)) := ((Below.refl _ _).alloc (Nat.le_refl _) _).alloc (by simp) _
  have Hb := hide hb
  clear hb
  by_cases h1 : x.pos < y.pos
  · have hd : decide (occLt x y) = true := decide_eq_true (.inl h1)
    rw [hd]
    clear hd
    go_enter Tryz.func171, Tryz.ntmps171
    go_wp2_with fail
    go_ret
    exact ⟨rfl, Hb.out⟩
  · by_cases h2 : x.pos = y.pos
    · have e2 : (x.pos == y.pos) = true := beq_iff_eq.2 h2
      obtain ⟨b, hbn⟩ : ∃ b, b = Op.bytesLess x.name.toList y.name.toList := ⟨_, rfl⟩
      have hd : decide (occLt x y) = b := by
        rw [hbn, bytesLess_eq, Lib.toList_data, Lib.toList_data]
        unfold occLt
        simp [h2]
      rw [hd]
      clear h2
      cases b
      · have b1 := hbn.symm
        clear hbn hd
        go_enter Tryz.func171, Tryz.ntmps171
        go_wp2_with fail
        go_ret
        exact ⟨rfl, Hb.out⟩
      · have b1 := hbn.symm
        clear hbn hd
        go_enter Tryz.func171, Tryz.ntmps171
        go_wp2_with fail
        go_ret
        exact ⟨rfl, Hb.out⟩
    · have e2 : (x.pos == y.pos) = false := beq_eq_false_iff_ne.2 h2
      have hd : decide (occLt x y) = false := decide_eq_false (fun q => by
        rcases q with q | ⟨q, _⟩
        · exact h1 q
        · exact h2 q)
      rw [hd]
      clear hd
      go_enter Tryz.func171, Tryz.ntmps171
      go_wp2_with fail
      go_ret
      exact ⟨rfl, Hb.out⟩
theorem ElL.append {α : Type} {R : CR α} {w : World} : ∀ {xs ys : List α} {cl cr : List Value} {F G : List Nat}, ElL R w xs cl F → ElL R w ys cr G → ElL R w (xs ++ ys) (cl ++ cr) (F ++ G)
  | [], ys, cl, cr, F, G, h, g => by
    obtain ⟨rfl, rfl⟩ := h
    exact g
  | x :: r, ys, cl, cr, F, G, h, g => by
    obtain ⟨cs, c2, F1, F2, rfl, rfl, h1, h2⟩ := h
    exact ⟨cs, c2 ++ cr, F1, F2 ++ G, by rw [List.append_assoc], by rw [List.append_assoc], h1, ElL.append h2 g⟩
/-- A whole slice of plain things appended to a row that the call owns. -/
theorem app_allQ {α : Type} {P : Program} {ops : Array Oper} {rest : List Oper} {o : Oper} {a : Act} {Q : Exit → Act → World → Prop} (hgd : o.guard = none) (s x : Operand) (t e : TypeId)
    (ho : o.op = .call { callee := .builtin .append, args := #[s, x], argTypes := #[t, t] }) (ht : P.underlying t = some (.slice e)) {z : Value} {size bytes : Nat}
    (hinfo : (P.info? e).map (fun i => (i.zero, i.size, i.bytes)) = some (some z, size, bytes)) (hzs : z.cells.size = size) (hsz : 0 < size) {R : CR α} (hR : Good size R) (W2 : World) (base : Nat) (v : Value) (xs : List α)
    (hown : OwnS size R base e W2 xs v []) (hs : a.eval s = v) (ys : List α) (cl : List Value) (hel : ElL R W2 ys cl []) (hl : cl.length = ys.length * size) (g off m c : Nat) (hx : a.eval x = .slice (some ⟨g, off, none⟩) m c) (hm : ys.length = m) (hc : CellsAt W2 g off cl) (h1 : ∀ u ∈ cl, u.oneCell' = true)
    (hn : xs.length + ys.length ≤ 1099511627776) (hby : (xs.length + ys.length) * bytes ≤ 140737488355328) (hbase : base ≤ W2.heap.size)
    (h : ∀ v' w', OwnS size R base e w' (xs ++ ys) v' [] → W2.grownBy w' v.ownBlock → (∀ k, v'.ownBlock = some k → v.ownBlock = some k ∨ W2.heap.size ≤ k) → wpList P ops Q rest (a.put o.dst v') w') :
    wpList P ops Q (o :: rest) a W2 := by
  subst hm
  obtain ⟨i0, hi, hz0, hz1, hz2⟩ := info_parts hinfo
  obtain ⟨⟨cx, hrow, hex⟩, hf, hoff⟩ := hown
  refine wpList_plain hgd fun K hK => ?_
  have hcells : ∀ j u, cl[j]? = some u → W2.cell? ((⟨g, off, none⟩ : Addr).add j) = some u := fun j u hu => by
    have e1 : (⟨g, off, none⟩ : Addr).add j = ⟨g, off + j, none⟩ := by
      unfold Addr.add
      split
      · rename_i h0; subst h0; rfl
      · rfl
    rw [e1]
    exact hc j u hu
  obtain ⟨v', w', hr, h2, h3, h4⟩ := run_append_where (P := P) W2 base t o.type e i0 z size bytes ht hi hz0 hz1 hz2 hzs hsz v xs.length cx hrow ⟨g, off, none⟩ ys.length c cl hl hcells h1 (by unfold maxLen; omega) hby hbase
  have hres : OwnS size R base e w' (xs ++ ys) v' [] := ⟨⟨cx ++ cl, by rw [List.length_append]; exact h2, ElL.append (F := []) (G := []) (hex.frame hR h3.size (fun k hk => by cases hk)) (hel.frame hR h3.size (fun k hk => by cases hk))⟩, Fresh.nil _ _, by simp⟩
  have hfin := hK _ _ (h v' w' hres h3 h4)
  revert hr
  intro hr
  unfold Oper.wp execOp
  simp only [ho, resolve, invoke, builtin, Sem.run_bind, Sem.run_pure, Result.andThen_ok, List.map_toArray, List.map_cons, List.map_nil, hs, hx, hr]
  exact hfin
def flatO : List Occ → List Value
  | [] => []
  | x :: r => .int .i64 x.pos :: .string x.name :: flatO r
theorem flatO_len : ∀ xs : List Occ, (flatO xs).length = xs.length * 2
  | [] => rfl
  | x :: r => by simp only [flatO, List.length_cons, flatO_len r]; omega
theorem flatO_one : ∀ xs : List Occ, ∀ u ∈ flatO xs, u.oneCell' = true
  | [], u, hu => by cases hu
  | x :: r, u, hu => by
    simp only [flatO, List.mem_cons] at hu
    rcases hu with rfl | rfl | hu
    · rfl
    · rfl
    · exact flatO_one r u hu
theorem flatO_at : ∀ (xs : List Occ) (j : Nat) (x : Occ), xs[j]? = some x → (flatO xs)[j * 2]? = some (.int .i64 x.pos) ∧ (flatO xs)[j * 2 + 1]? = some (.string x.name)
  | y :: r, 0, x, h => by
    obtain rfl := Option.some.inj h
    exact ⟨rfl, rfl⟩
  | y :: r, j + 1, x, h => by
    have h3 := flatO_at r j x (by simpa using h)
    rw [show (j + 1) * 2 = j * 2 + 1 + 1 by omega]
    exact h3
theorem flatO_append : ∀ xs ys : List Occ, flatO (xs ++ ys) = flatO xs ++ flatO ys
  | [], ys => rfl
  | x :: r, ys => by simp only [flatO, List.cons_append, flatO_append r ys]
theorem ElL.flatO {w : World} : ∀ {xs : List Occ}, (∀ x ∈ xs, x.ok) → ElL (OccR 0) w xs (flatO xs) []
  | [], _ => ⟨rfl, rfl⟩
  | x :: r, h => ⟨[.int .i64 x.pos, .string x.name], _, [], [], rfl, rfl, ⟨rfl, h x (by simp), rfl, rfl, rfl⟩, ElL.flatO fun y hy => h y (by simp [hy])⟩
theorem ElL.is_flat {w : World} : ∀ {xs : List Occ} {cl : List Value} {F : List Nat}, ElL (OccR 0) w xs cl F → cl = Go.Proofs.YthlhhnnlbpecnaaGreat.flatO xs
  | [], cl, F, h => h.1
  | x :: r, cl, F, h => by
    obtain ⟨cs, cr, F1, F2, rfl, rfl, h1, h2⟩ := h
    obtain ⟨a, b, rfl⟩ := list2 h1.1
    obtain rfl := Option.some.inj h1.2.2.1
    obtain rfl := Option.some.inj h1.2.2.2.1
    rw [ElL.is_flat h2]
    rfl
theorem CellsAt.take1 {w : World} {g : Nat} {xs : List Occ} (h : CellsAt w g 0 (flatO xs)) (j : Nat) : CellsAt w g 0 (flatO (xs.take j)) := fun i u hu => h i u (by
  have e : flatO xs = flatO (xs.take j) ++ flatO (xs.drop j) := by rw [← flatO_append, List.take_append_drop]
  rw [e, List.getElem?_append_left (List.getElem?_eq_some_iff.1 hu).1]
  exact hu)
theorem CellsAt.drop1 {w : World} {g : Nat} {xs : List Occ} (h : CellsAt w g 0 (flatO xs)) {j : Nat} (hj : j ≤ xs.length) : CellsAt w g (j * 2) (flatO (xs.drop j)) := fun i u hu => by
  have hl : (flatO (xs.take j)).length = j * 2 := by rw [flatO_len, List.length_take]; omega
  have e : flatO xs = flatO (xs.take j) ++ flatO (xs.drop j) := by rw [← flatO_append, List.take_append_drop]
  have := h (j * 2 + i) u (by
    rw [e, List.getElem?_append_right (by omega), hl, show j * 2 + i - j * 2 = i by omega]
    exact hu)
  rwa [Nat.zero_add] at this
/-- A list of occurrences that a slice of the call's own holds. -/
structure LR (B : Nat) (w : World) (xs : List Occ) (g cap : Nat) : Prop where
  cells : CellsAt w g 0 (flatO xs)
  ok : ∀ x ∈ xs, x.ok
  le : xs.length ≤ cap
  max : cap ≤ maxLen
  from_ : B ≤ g
  blk : ∃ cs t, w.heap[g]? = some (.cells cs t (0, 0))
theorem LR.lt {B : Nat} {w : World} {xs : List Occ} {g cap : Nat} (h : LR B w xs g cap) : g < w.heap.size := by
  obtain ⟨cs, t, hb⟩ := h.blk
  exact blk_lt hb
theorem LR.below {B : Nat} {w w' : World} {xs : List Occ} {g cap : Nat} (h : LR B w xs g cap) (hb : Below w.heap.size w w') : LR B w' xs g cap :=
  ⟨h.cells.below hb h.lt, h.ok, h.le, h.max, h.from_, by obtain ⟨cs, t, h1⟩ := h.blk; exact ⟨cs, t, blk_below h1 hb (blk_lt h1)⟩⟩
theorem LR.mono {B C : Nat} {w : World} {xs : List Occ} {g cap : Nat} (h : LR B w xs g cap) (hC : C ≤ B) : LR C w xs g cap := ⟨h.cells, h.ok, h.le, h.max, Nat.le_trans hC h.from_, h.blk⟩
theorem LR.parts {B : Nat} {w : World} {xs : List Occ} {g cap : Nat} (h : LR B w xs g cap) (j : Nat) : (∀ W, ElL (OccR 0) W (xs.take j) (flatO (xs.take j)) []) ∧ ∀ W, ElL (OccR 0) W (xs.drop j) (flatO (xs.drop j)) [] :=
  ⟨fun W => ElL.flatO fun x hx => h.ok x (List.mem_of_mem_take hx), fun W => ElL.flatO fun x hx => h.ok x (List.mem_of_mem_drop hx)⟩
theorem LR.slr {B D : Nat} {w : World} {xs : List Occ} {g cap : Nat} (h : LR B w xs g cap) : ∃ G, SlR 2 (OccR D) w xs (.slice (some ⟨g, 0, none⟩) xs.length cap) G ∧ Fresh B w G := by
  by_cases h0 : xs = []
  · exact ⟨[], ⟨_, cap, rfl, h.le, h.max, .inl ⟨h0, rfl⟩⟩, Fresh.nil _ _⟩
  · refine ⟨[g], ⟨_, cap, rfl, h.le, h.max, .inr ⟨g, 0, [], rfl, h.lt, rfl, ElR.of_occ h.ok fun j y hy => ?_⟩⟩, ⟨List.nodup_cons.2 ⟨by simp, List.nodup_nil⟩, fun k hk => ?_, fun k hk => ?_⟩⟩
    · obtain ⟨e1, e2⟩ := flatO_at xs j y hy
      have c1 := h.cells _ _ e1
      have c2 := h.cells _ _ e2
      exact ⟨c1, c2⟩
    · obtain rfl := List.mem_singleton.1 hk
      exact h.from_
    · obtain rfl := List.mem_singleton.1 hk
      exact h.blk
theorem OwnS.toLR {B n cap : Nat} {w : World} {xs : List Occ} {A : Option Addr} (h : OwnS 2 (OccR 0) B 81 w xs (.slice A n cap) []) (h0 : xs ≠ []) : ∃ g, A = some ⟨g, 0, none⟩ ∧ LR B w xs g cap := by
  obtain ⟨⟨cl, ⟨h1, h2⟩, hel⟩, _, _⟩ := h
  rcases h2 with ⟨_, h3⟩ | ⟨g, cap', cur, hv, hB, hb, hn, hm, hc, ht⟩
  · exact absurd (List.eq_nil_of_length_eq_zero h3) h0
  · injection hv with hv1 hv2 hv3
    subst hv3
    refine ⟨g, hv1, fun i u hu => ?_, hel.occ.1, hn, hm, hB, cur, _, hb⟩
    rw [← hel.is_flat, ← ht, List.getElem?_take] at hu
    split at hu
    · rw [cell_of_row _ _ _ _ _ _ hb, Nat.zero_add]
      simpa using hu
    · cases hu
theorem insO_ne (xs : List Occ) (o : Occ) : insO xs o ≠ [] := fun h => by
  have := (mem_insO o xs o).2 (.inl rfl)
  rw [h] at this
  cases this
set_option maxRecDepth 100000 in
set_option maxHeartbeats 4000000 in
theorem t_Put (B g cap : Nat) (xs : List Occ) (o : Occ) (w : World) (hL : LR B w xs g cap) (hok : o.ok) (hB : B ≤ w.heap.size) (hn : xs.length ≤ 2097152) :
    Calls Tryz.prog 159 #[.slice (some ⟨g, 0, none⟩) xs.length cap, .agg #[.int .i64 o.pos, .string o.name]] w fun en w' => ∃ g' cap', en = .returned (.slice (some ⟨g', 0, none⟩) (insO xs o).length cap') ∧ LR B w' (insO xs o) g' cap' ∧ Below w.heap.size w w' := by
  have HL := hide hL
  have hle := hL.le
  have hmx := hL.max
  unfold maxLen at hmx
  have hgl := hL.lt
  have hw0 : Below w.heap.size w (w.alloc (.cells #[.int .i64 o.pos, .string o.name] 81)) := (Below.refl _ _).alloc (Nat.le_refl _) _
  have hbx := heap_alloc_new w (.cells #[.int .i64 o.pos, .string o.name] 81)
  have hz := World.size_alloc w (.cells #[.int .i64 o.pos, .string o.name] 81)
  clear hL
  go_enter Tryz.func159, Tryz.ntmps159
  go_wp2_with fail
  generalize w.alloc (.cells #[.int .i64 o.pos, .string o.name] 81) = W0 at hw0 hbx hz ⊢
  have hn0 : w.heap.size + 1 ≤ W0.heap.size := by omega
  have Hw : Hid (∀ W : World, Below (w.heap.size + 1) W0 W → Below w.heap.size w W) := hide fun W h => hw0.trans (h.mono (by omega))
  have HBX := hide hbx
  have hC : CellsAt W0 w.heap.size 0 [.int .i64 o.pos, .string o.name] := fun i u hu => by
    rw [cell_of_row _ _ _ _ _ _ hbx, Nat.zero_add]
    simpa using hu
  have e0 := cell_rule hC (n := w.heap.size + 1) (by omega) 0 rfl
  have e1 := cell_rule hC (n := w.heap.size + 1) (by omega) 1 rfl
  have HB0 : Hid (Below (w.heap.size + 1) W0 W0) := hide (Below.refl _ _)
  clear hw0 hbx hz hC
  go_loopw [5] (fun i wr => ∃ j : Nat, j ≤ xs.length ∧ i = .int .i64 j ∧ Hid (∀ k y, k < j → xs[k]? = some y → occLt y o) ∧ Hid (Below (w.heap.size + 1) W0 wr)) (fun i _ => xs.length - (intOf i).toNat)
  case atStart => exact ⟨0, by omega, rfl, hide (fun k y hk => absurd hk (by omega)), HB0⟩
  case round =>
    obtain ⟨j, hj, rfl, Hlt, Hb⟩ := hrel
    have hBr := Hb.out
    by_cases hlt : j < xs.length
    · have hX : xs[j]? = some xs[j] := List.getElem?_eq_getElem hlt
      generalize xs[j] = y at hX
      have HX0 := hide hX
      obtain ⟨f1, f2⟩ := flatO_at xs j y hX
      have r0 : ∀ W : World, Below (w.heap.size + 1) W0 W → W.cell? ⟨g, j * 2, none⟩ = some (.int .i64 y.pos) := fun W hW => by
        have := (HL.out.cells.below (Hw.out W hW) hgl) _ _ f1
        rwa [Nat.zero_add] at this
      have r1 : ∀ W : World, Below (w.heap.size + 1) W0 W → W.cell? ⟨g, j * 2 + 1, none⟩ = some (.string y.name) := fun W hW => by
        have := (HL.out.cells.below (Hw.out W hW) hgl) _ _ f2
        rwa [Nat.zero_add] at this
      have hj0 : (0 : Int) ≤ (j : Int) := by omega
      have hj1 : (j : Int) < (xs.length : Int) := by omega
      clear hX f1 f2
      obtain ⟨b, hbd⟩ : ∃ b, b = decide (occLt y o) := ⟨_, rfl⟩
      have Hbd := hide hbd
      have HT : Hid (∀ W : World, Calls Tryz.prog 171 #[.agg #[.int .i64 y.pos, .string y.name], .agg #[.int .i64 o.pos, .string o.name]] W fun e w' => e = .returned (.bool b) ∧ Below W.heap.size W w') := hide fun W => by
        rw [hbd]
        exact t_before y o W
      clear hbd
      cases b
      · have HNB : ∀ z, xs[j]? = some z → ¬ occLt z o := fun z hz => by
          rw [HX0.out] at hz
          obtain rfl := Option.some.inj hz
          exact of_decide_eq_false Hbd.out.symm
        replace HNB := hide HNB
        go_wp2_with fail
        go_region_held3 (fun W => Below (w.heap.size + 1) W0 W)
          (first | assumption | exact Below.drew (by assumption))
          ((go_at_call 171; refine Calls.mono (HT.out _) ?_; rintro en w2 ⟨rfl, hb2⟩; have hw2 : Below (w.heap.size + 1) W0 w2 := below_step (by (repeat (first | assumption | apply Below.drew))) hn0 hb2; clear hb2))
        have HX2 : Hid (∀ q, Below (w.heap.size + 1) W0 (w2.drewN q)) := hide fun q => below_drewN hw2 q
        by_cases hyo : y = o
        · have hE := eqlO y o true (by simp [hyo])
          have Hins : Hid (insO xs o = xs) := hide (by
            rw [insO_at o xs j hj Hlt.out HNB.out, if_pos (by rw [HX0.out, hyo])])
          go_wp2_with fail
          go_quiet (fail)
          have HX := hide (HX2.out nq)
          generalize w2.drewN nq = WX at HX ⊢
          clear hE
          go_wp2_with fail
          go_ret
          rw [Hins.out]
          exact ⟨g, cap, rfl, ⟨HL.out.cells.below (Hw.out _ HX.out) hgl, HL.out.ok, HL.out.le, HL.out.max, HL.out.from_, by obtain ⟨cs, t, h1⟩ := HL.out.blk; exact ⟨cs, t, blk_below h1 (Hw.out _ HX.out) hgl⟩⟩, Hw.out _ HX.out⟩
        · have hE := eqlO y o false (by simp [hyo])
          have HNE : Hid (¬ xs[j]? = some o) := hide (fun h => by
            rw [HX0.out] at h
            exact hyo (Option.some.inj h))
          go_wp2_with fail
          go_quiet (fail)
          have HX := hide (HX2.out nq)
          generalize w2.drewN nq = WX at HX ⊢
          clear hE hj0 hj1
          have hins := insO_at o xs j hj Hlt.out HNB.out
          rw [if_neg HNE.out] at hins
          have hro := OwnS.made (n := 2) (R := OccR 0) (e := 81) WX (B := w.heap.size) (by have := HX.out.size; omega)
          have hB1 : Below w.heap.size w (WX.alloc (.cells #[] 81)) := (Hw.out _ HX.out).alloc (Nat.le_trans (by omega) HX.out.size) _
          obtain ⟨hel1, hel2⟩ := HL.out.parts j
          have Hro := hide hro
          have HB1 := hide hB1
          have Hel1 := hide (hel1 (WX.alloc (.cells #[] 81)))
          have Hel2 := hide hel2
          have Hc1 : Hid (CellsAt (WX.alloc (.cells #[] 81)) g 0 (flatO (xs.take j))) := hide ((HL.out.cells.below hB1 HL.out.lt).take1 j)
          have Hf1 : Hid ((flatO (xs.take j)).length = (xs.take j).length * 2) := hide (flatO_len _)
          have Hf2 : Hid ((flatO (xs.drop j)).length = (xs.drop j).length * 2) := hide (flatO_len _)
          have Ht : Hid ((xs.take j).length = j) := hide (by rw [List.length_take]; omega)
          have Hd : Hid ((xs.drop j).length = xs.length - j) := hide (by rw [List.length_drop])
          have Hins := hide hins
          have HXz : w.heap.size + 1 ≤ WX.heap.size := Nat.le_trans hn0 HX.out.size
          have hj0 : (0 : Int) ≤ (j : Int) := by omega
          have hj1 : (j : Int) ≤ (xs.length : Int) := by omega
          have hj2 : (j : Int) ≤ (cap : Int) := by omega
          have hj3 : (xs.length : Int) ≤ (cap : Int) := by omega
          clear hro hB1 hel1 hel2 hins
          go_wp2_with (at_builtin; refine app_allQ rfl (.tmp 34) (.tmp 37) 79 81 rfl Tryz.underlying79 infoOc2 rfl (by decide) (OccR.good 0) (WX.alloc (.cells #[] 81)) w.heap.size (.slice (some ⟨WX.heap.size, 0, none⟩) 0 0) [] Hro.out rfl (xs.take j) (flatO (xs.take j)) Hel1.out Hf1.out g 0 j cap (by first | rfl | simp [go_sem]) Ht.out Hc1.out (flatO_one _) (by simp; omega) (by simp; omega) (by simp; omega) ?_; intro v1 w1 hown1 hgr1 hwh1; refine hold ?_)
          rw [List.nil_append] at hown1
          obtain ⟨A1, cap1, hv1, _, _⟩ := hown1.form
          rw [Ht.out] at hv1
          subst hv1
          have hz1 := hgr1.size
          have Hb2 : Hid (Below w.heap.size w w1) := hide (HB1.out.grown hgr1 HB1.out.size (fun k hk => by obtain rfl := Option.some.inj hk; show w.heap.size ≤ WX.heap.size; omega))
          have hbx1 : w1.heap[w.heap.size]? = some (.cells #[.int .i64 o.pos, .string o.name] 81 (0, 0)) := (hgr1.block w.heap.size (by rw [World.size_alloc]; omega) (fun e => by have := Option.some.inj e; change w.heap.size = WX.heap.size at this; omega)).trans (((Below.refl WX.heap.size WX).alloc (Nat.le_refl _) _).block w.heap.size (by omega) |>.trans (blk_below HBX.out HX.out (by omega)))
          have p0 := cell_at (i := 0) hbx1 (by simp)
          have p1 := cell_at (i := 1) hbx1 (by simp)
          have hb3 : Below w1.heap.size w1 (w1.alloc (.cells #[.int .i64 o.pos, .string o.name] 81)) := (Below.refl _ _).alloc (Nat.le_refl _) _
          have Ho1 := hide (hown1.below (OccR.good 0) hb3)
          have Hg1 : Hid (New w1.heap.size (w1.alloc (.cells #[.int .i64 o.pos, .string o.name] 81)) w1.heap.size (.cells #[.int .i64 o.pos, .string o.name] 81 (0, 0))) := hide ⟨Nat.le_refl _, heap_alloc_new w1 _⟩
          have Hv1 : Hid (∀ k, (Value.slice A1 j cap1).ownBlock = some k → k < w1.heap.size) := hide fun k hk => (hown1.blk k hk).2
          have Hy : Hid (Made w1.heap.size (OccR 0) (w1.alloc (.cells #[.int .i64 o.pos, .string o.name] 81)) o [.int .i64 o.pos, .string o.name] []) := hide ⟨⟨rfl, hok, rfl, rfl, rfl⟩, Fresh.nil _ _⟩
          have Hb3 : Hid (Below w.heap.size w (w1.alloc (.cells #[.int .i64 o.pos, .string o.name] 81))) := hide (Hb2.out.trans (hb3.mono Hb2.out.size))
          have HB1z := Hb2.out.size
          clear hown1 hgr1 hwh1 hbx1 hb3
          refine Hold.go ?_
          go_wp2_with (at_builtin; refine app_ownQ rfl (.tmp 39) (.tmp 41) 79 81 rfl Tryz.underlying79 infoOc2 rfl (by decide) (OccR.good 0) w1.heap.size (w1.alloc (.cells #[.int .i64 o.pos, .string o.name] 81)) w.heap.size (.slice A1 j cap1) (xs.take j) [] Ho1.out rfl (by simp) Hv1.out o [.int .i64 o.pos, .string o.name] [] Hy.out (by simp [Value.oneCell']) w1.heap.size (by first | rfl | simp [go_sem]) Hg1.out (by rw [Ht.out]; omega) (by rw [Ht.out]; omega) HB1z ?_; intro v2 w2 hown2 hgr2 hwh2; refine hold ?_)
          obtain ⟨A2, cap2, hv2, _, _⟩ := hown2.form
          rw [show (xs.take j ++ [o]).length = j + 1 from by rw [List.length_append, Ht.out]; rfl] at hv2
          subst hv2
          have hblk1 : ∀ k, (Value.slice A1 j cap1).ownBlock = some k → w.heap.size ≤ k := fun k hk => (Ho1.out.blk k hk).1
          have Hb4 : Hid (Below w.heap.size w w2) := hide (Hb3.out.grown hgr2 Hb3.out.size hblk1)
          have Ho2 := hide hown2
          have Hel3 := hide (Hel2.out w2)
          have Hc2 : Hid (CellsAt w2 g (j * 2) (flatO (xs.drop j))) := hide ((HL.out.cells.below Hb4.out HL.out.lt).drop1 hj)
          have HB2z := Hb4.out.size
          clear hown2 hgr2 hwh2
          refine Hold.go ?_
          go_wp2_with (at_builtin; refine app_allQ rfl (.tmp 43) (.tmp 46) 79 81 rfl Tryz.underlying79 infoOc2 rfl (by decide) (OccR.good 0) w2 w.heap.size (.slice A2 (j + 1) cap2) (xs.take j ++ [o]) Ho2.out rfl (xs.drop j) (flatO (xs.drop j)) Hel3.out Hf2.out g (j * 2) (xs.length - j) (cap - j) (by first | rfl | (simp [go_sem]; done) | (simp [go_sem]; omega)) Hd.out Hc2.out (flatO_one _) (by rw [List.length_append, Ht.out, Hd.out]; simp; omega) (by rw [List.length_append, Ht.out, Hd.out]; simp; omega) HB2z ?_; intro v3 w3 hown3 hgr3 hwh3; refine hold ?_)
          rw [List.append_assoc, List.singleton_append, ← Hins.out] at hown3
          obtain ⟨A3, cap3, hv3, hlc3, hm3⟩ := hown3.form
          have Hb5 : Hid (Below w.heap.size w w3) := hide (Hb4.out.grown hgr3 Hb4.out.size (fun k hk => (Ho2.out.blk k hk).1))
          subst hv3
          have Ho3 := hide hown3
          clear hown3 hgr3 hwh3
          refine Hold.go ?_
          go_wp2_with fail
          go_ret
          obtain ⟨g3, rfl, hLR⟩ := Ho3.out.toLR (insO_ne xs o)
          exact ⟨g3, cap3, rfl, hLR.mono hB, Hb5.out⟩
      · go_wp2_with fail
        go_region_held3 (fun W => Below (w.heap.size + 1) W0 W)
          (first | assumption | exact Below.drew (by assumption))
          ((go_at_call 171; refine Calls.mono (HT.out _) ?_; rintro en w2 ⟨rfl, hb2⟩; have hw2 : Below (w.heap.size + 1) W0 w2 := below_step (by (repeat (first | assumption | apply Below.drew))) hn0 hb2; clear hb2))
        have Hw2 := hide hw2
        go_wp2_with fail
        go_roundw
        case rel =>
          refine ⟨j + 1, by omega, by go_num, hide fun k z hk hz => ?_, Hw2⟩
          by_cases hkj : k < j
          · exact Hlt.out k z hkj hz
          · obtain rfl : k = j := by omega
            rw [HX0.out] at hz
            obtain rfl := Option.some.inj hz
            exact of_decide_eq_true Hbd.out.symm
        case measure => simp [intOf]; omega
    · have hje : j = xs.length := by omega
      have hN : xs[j]? = none := List.getElem?_eq_none (by omega)
      have HNB : Hid (∀ z, xs[j]? = some z → ¬ occLt z o) := hide fun z hz => by rw [hN] at hz; cases hz
      have HNE : Hid (¬ xs[j]? = some o) := hide fun h => by rw [hN] at h; cases h
      have HX2 : Hid (∀ q, Below (w.heap.size + 1) W0 (wr.drewN q)) := hide fun q => below_drewN hBr q
      have hlti : ¬ (j : Int) < (xs.length : Int) := by omega
      clear hje hN
      go_wp2_with fail
      go_quiet (fail)
      have HX1 := hide (HX2.out nq)
      generalize wr.drewN nq = W2 at HX1 ⊢
      go_wp2_with fail
      go_quiet (fail)
      have HX := hide (below_drewN HX1.out nq)
      generalize W2.drewN nq = WX at HX ⊢
      clear hlti
      have hdr : Hid (xs.drop j = []) := hide (List.drop_of_length_le (by omega))
      by_cases hcj : cap = j
      · subst hcj
        have hins := insO_at o xs cap hj Hlt.out HNB.out
        rw [if_neg HNE.out] at hins
        have hro := OwnS.made (n := 2) (R := OccR 0) (e := 81) WX (B := w.heap.size) (by have := HX.out.size; omega)
        have hB1 : Below w.heap.size w (WX.alloc (.cells #[] 81)) := (Hw.out _ HX.out).alloc (Nat.le_trans (by omega) HX.out.size) _
        obtain ⟨hel1, hel2⟩ := HL.out.parts cap
        have Hro := hide hro
        have HB1 := hide hB1
        have Hel1 := hide (hel1 (WX.alloc (.cells #[] 81)))
        have Hel2 := hide hel2
        have Hc1 : Hid (CellsAt (WX.alloc (.cells #[] 81)) g 0 (flatO (xs.take cap))) := hide ((HL.out.cells.below hB1 HL.out.lt).take1 cap)
        have Hf1 : Hid ((flatO (xs.take cap)).length = (xs.take cap).length * 2) := hide (flatO_len _)
        have Hf2 : Hid ((flatO (xs.drop cap)).length = (xs.drop cap).length * 2) := hide (flatO_len _)
        have Ht : Hid ((xs.take cap).length = cap) := hide (by rw [List.length_take]; omega)
        have Hd : Hid ((xs.drop cap).length = xs.length - cap) := hide (by rw [List.length_drop])
        have Hins := hide hins
        have HXz : w.heap.size + 1 ≤ WX.heap.size := Nat.le_trans hn0 HX.out.size
        have hj0 : (0 : Int) ≤ (cap : Int) := by omega
        have hj1 : (cap : Int) ≤ (xs.length : Int) := by omega
        have hj2 : (cap : Int) ≤ (cap : Int) := by omega
        have hj3 : (xs.length : Int) ≤ (cap : Int) := by omega
        clear hro hB1 hel1 hel2 hins
        go_wp2_with (at_builtin; refine app_allQ rfl (.tmp 34) (.tmp 37) 79 81 rfl Tryz.underlying79 infoOc2 rfl (by decide) (OccR.good 0) (WX.alloc (.cells #[] 81)) w.heap.size (.slice (some ⟨WX.heap.size, 0, none⟩) 0 0) [] Hro.out rfl (xs.take cap) (flatO (xs.take cap)) Hel1.out Hf1.out g 0 cap cap (by first | rfl | simp [go_sem]) Ht.out Hc1.out (flatO_one _) (by simp; omega) (by simp; omega) (by simp; omega) ?_; intro v1 w1 hown1 hgr1 hwh1; refine hold ?_)
        rw [List.nil_append] at hown1
        obtain ⟨A1, cap1, hv1, _, _⟩ := hown1.form
        rw [Ht.out] at hv1
        subst hv1
        have hz1 := hgr1.size
        have Hb2 : Hid (Below w.heap.size w w1) := hide (HB1.out.grown hgr1 HB1.out.size (fun k hk => by obtain rfl := Option.some.inj hk; show w.heap.size ≤ WX.heap.size; omega))
        have hbx1 : w1.heap[w.heap.size]? = some (.cells #[.int .i64 o.pos, .string o.name] 81 (0, 0)) := (hgr1.block w.heap.size (by rw [World.size_alloc]; omega) (fun e => by have := Option.some.inj e; change w.heap.size = WX.heap.size at this; omega)).trans (((Below.refl WX.heap.size WX).alloc (Nat.le_refl _) _).block w.heap.size (by omega) |>.trans (blk_below HBX.out HX.out (by omega)))
        have p0 := cell_at (i := 0) hbx1 (by simp)
        have p1 := cell_at (i := 1) hbx1 (by simp)
        have hb3 : Below w1.heap.size w1 (w1.alloc (.cells #[.int .i64 o.pos, .string o.name] 81)) := (Below.refl _ _).alloc (Nat.le_refl _) _
        have Ho1 := hide (hown1.below (OccR.good 0) hb3)
        have Hg1 : Hid (New w1.heap.size (w1.alloc (.cells #[.int .i64 o.pos, .string o.name] 81)) w1.heap.size (.cells #[.int .i64 o.pos, .string o.name] 81 (0, 0))) := hide ⟨Nat.le_refl _, heap_alloc_new w1 _⟩
        have Hv1 : Hid (∀ k, (Value.slice A1 cap cap1).ownBlock = some k → k < w1.heap.size) := hide fun k hk => (hown1.blk k hk).2
        have Hy : Hid (Made w1.heap.size (OccR 0) (w1.alloc (.cells #[.int .i64 o.pos, .string o.name] 81)) o [.int .i64 o.pos, .string o.name] []) := hide ⟨⟨rfl, hok, rfl, rfl, rfl⟩, Fresh.nil _ _⟩
        have Hb3 : Hid (Below w.heap.size w (w1.alloc (.cells #[.int .i64 o.pos, .string o.name] 81))) := hide (Hb2.out.trans (hb3.mono Hb2.out.size))
        have HB1z := Hb2.out.size
        clear hown1 hgr1 hwh1 hbx1 hb3
        refine Hold.go ?_
        go_wp2_with (at_builtin; refine app_ownQ rfl (.tmp 39) (.tmp 41) 79 81 rfl Tryz.underlying79 infoOc2 rfl (by decide) (OccR.good 0) w1.heap.size (w1.alloc (.cells #[.int .i64 o.pos, .string o.name] 81)) w.heap.size (.slice A1 cap cap1) (xs.take cap) [] Ho1.out rfl (by simp) Hv1.out o [.int .i64 o.pos, .string o.name] [] Hy.out (by simp [Value.oneCell']) w1.heap.size (by first | rfl | simp [go_sem]) Hg1.out (by rw [Ht.out]; omega) (by rw [Ht.out]; omega) HB1z ?_; intro v2 w2 hown2 hgr2 hwh2; refine hold ?_)
        obtain ⟨A2, cap2, hv2, _, _⟩ := hown2.form
        rw [show (xs.take cap ++ [o]).length = cap + 1 from by rw [List.length_append, Ht.out]; rfl] at hv2
        subst hv2
        have hblk1 : ∀ k, (Value.slice A1 cap cap1).ownBlock = some k → w.heap.size ≤ k := fun k hk => (Ho1.out.blk k hk).1
        have Hb4 : Hid (Below w.heap.size w w2) := hide (Hb3.out.grown hgr2 Hb3.out.size hblk1)
        have Ho2 := hide hown2
        have Hel3 := hide (Hel2.out w2)
        have Hc2 : Hid (CellsAt w2 g 0 (flatO (xs.drop cap))) := hide (by rw [hdr.out]; intro i u hu; cases hu)
        have HB2z := Hb4.out.size
        clear hown2 hgr2 hwh2
        refine Hold.go ?_
        go_wp2_with (at_builtin; refine app_allQ rfl (.tmp 43) (.tmp 46) 79 81 rfl Tryz.underlying79 infoOc2 rfl (by decide) (OccR.good 0) w2 w.heap.size (.slice A2 (cap + 1) cap2) (xs.take cap ++ [o]) Ho2.out rfl (xs.drop cap) (flatO (xs.drop cap)) Hel3.out Hf2.out g 0 (xs.length - cap) (cap - cap) (by first | rfl | (simp [go_sem]; done) | (simp [go_sem]; omega)) Hd.out Hc2.out (flatO_one _) (by rw [List.length_append, Ht.out, Hd.out]; simp; omega) (by rw [List.length_append, Ht.out, Hd.out]; simp; omega) HB2z ?_; intro v3 w3 hown3 hgr3 hwh3; refine hold ?_)
        rw [List.append_assoc, List.singleton_append, ← Hins.out] at hown3
        obtain ⟨A3, cap3, hv3, hlc3, hm3⟩ := hown3.form
        have Hb5 : Hid (Below w.heap.size w w3) := hide (Hb4.out.grown hgr3 Hb4.out.size (fun k hk => (Ho2.out.blk k hk).1))
        subst hv3
        have Ho3 := hide hown3
        clear hown3 hgr3 hwh3
        refine Hold.go ?_
        go_wp2_with fail
        go_ret
        obtain ⟨g3, rfl, hLR⟩ := Ho3.out.toLR (insO_ne xs o)
        exact ⟨g3, cap3, rfl, hLR.mono hB, Hb5.out⟩
      · clear hdr
        have hins := insO_at o xs j hj Hlt.out HNB.out
        rw [if_neg HNE.out] at hins
        have hro := OwnS.made (n := 2) (R := OccR 0) (e := 81) WX (B := w.heap.size) (by have := HX.out.size; omega)
        have hB1 : Below w.heap.size w (WX.alloc (.cells #[] 81)) := (Hw.out _ HX.out).alloc (Nat.le_trans (by omega) HX.out.size) _
        obtain ⟨hel1, hel2⟩ := HL.out.parts j
        have Hro := hide hro
        have HB1 := hide hB1
        have Hel1 := hide (hel1 (WX.alloc (.cells #[] 81)))
        have Hel2 := hide hel2
        have Hc1 : Hid (CellsAt (WX.alloc (.cells #[] 81)) g 0 (flatO (xs.take j))) := hide ((HL.out.cells.below hB1 HL.out.lt).take1 j)
        have Hf1 : Hid ((flatO (xs.take j)).length = (xs.take j).length * 2) := hide (flatO_len _)
        have Hf2 : Hid ((flatO (xs.drop j)).length = (xs.drop j).length * 2) := hide (flatO_len _)
        have Ht : Hid ((xs.take j).length = j) := hide (by rw [List.length_take]; omega)
        have Hd : Hid ((xs.drop j).length = xs.length - j) := hide (by rw [List.length_drop])
        have Hins := hide hins
        have HXz : w.heap.size + 1 ≤ WX.heap.size := Nat.le_trans hn0 HX.out.size
        have hj0 : (0 : Int) ≤ (j : Int) := by omega
        have hj1 : (j : Int) ≤ (xs.length : Int) := by omega
        have hj2 : (j : Int) ≤ (cap : Int) := by omega
        have hj3 : (xs.length : Int) ≤ (cap : Int) := by omega
        clear hro hB1 hel1 hel2 hins
        go_wp2_with (at_builtin; refine app_allQ rfl (.tmp 34) (.tmp 37) 79 81 rfl Tryz.underlying79 infoOc2 rfl (by decide) (OccR.good 0) (WX.alloc (.cells #[] 81)) w.heap.size (.slice (some ⟨WX.heap.size, 0, none⟩) 0 0) [] Hro.out rfl (xs.take j) (flatO (xs.take j)) Hel1.out Hf1.out g 0 j cap (by first | rfl | simp [go_sem]) Ht.out Hc1.out (flatO_one _) (by simp; omega) (by simp; omega) (by simp; omega) ?_; intro v1 w1 hown1 hgr1 hwh1; refine hold ?_)
        rw [List.nil_append] at hown1
        obtain ⟨A1, cap1, hv1, _, _⟩ := hown1.form
        rw [Ht.out] at hv1
        subst hv1
        have hz1 := hgr1.size
        have Hb2 : Hid (Below w.heap.size w w1) := hide (HB1.out.grown hgr1 HB1.out.size (fun k hk => by obtain rfl := Option.some.inj hk; show w.heap.size ≤ WX.heap.size; omega))
        have hbx1 : w1.heap[w.heap.size]? = some (.cells #[.int .i64 o.pos, .string o.name] 81 (0, 0)) := (hgr1.block w.heap.size (by rw [World.size_alloc]; omega) (fun e => by have := Option.some.inj e; change w.heap.size = WX.heap.size at this; omega)).trans (((Below.refl WX.heap.size WX).alloc (Nat.le_refl _) _).block w.heap.size (by omega) |>.trans (blk_below HBX.out HX.out (by omega)))
        have p0 := cell_at (i := 0) hbx1 (by simp)
        have p1 := cell_at (i := 1) hbx1 (by simp)
        have hb3 : Below w1.heap.size w1 (w1.alloc (.cells #[.int .i64 o.pos, .string o.name] 81)) := (Below.refl _ _).alloc (Nat.le_refl _) _
        have Ho1 := hide (hown1.below (OccR.good 0) hb3)
        have Hg1 : Hid (New w1.heap.size (w1.alloc (.cells #[.int .i64 o.pos, .string o.name] 81)) w1.heap.size (.cells #[.int .i64 o.pos, .string o.name] 81 (0, 0))) := hide ⟨Nat.le_refl _, heap_alloc_new w1 _⟩
        have Hv1 : Hid (∀ k, (Value.slice A1 j cap1).ownBlock = some k → k < w1.heap.size) := hide fun k hk => (hown1.blk k hk).2
        have Hy : Hid (Made w1.heap.size (OccR 0) (w1.alloc (.cells #[.int .i64 o.pos, .string o.name] 81)) o [.int .i64 o.pos, .string o.name] []) := hide ⟨⟨rfl, hok, rfl, rfl, rfl⟩, Fresh.nil _ _⟩
        have Hb3 : Hid (Below w.heap.size w (w1.alloc (.cells #[.int .i64 o.pos, .string o.name] 81))) := hide (Hb2.out.trans (hb3.mono Hb2.out.size))
        have HB1z := Hb2.out.size
        clear hown1 hgr1 hwh1 hbx1 hb3
        refine Hold.go ?_
        go_wp2_with (at_builtin; refine app_ownQ rfl (.tmp 39) (.tmp 41) 79 81 rfl Tryz.underlying79 infoOc2 rfl (by decide) (OccR.good 0) w1.heap.size (w1.alloc (.cells #[.int .i64 o.pos, .string o.name] 81)) w.heap.size (.slice A1 j cap1) (xs.take j) [] Ho1.out rfl (by simp) Hv1.out o [.int .i64 o.pos, .string o.name] [] Hy.out (by simp [Value.oneCell']) w1.heap.size (by first | rfl | simp [go_sem]) Hg1.out (by rw [Ht.out]; omega) (by rw [Ht.out]; omega) HB1z ?_; intro v2 w2 hown2 hgr2 hwh2; refine hold ?_)
        obtain ⟨A2, cap2, hv2, _, _⟩ := hown2.form
        rw [show (xs.take j ++ [o]).length = j + 1 from by rw [List.length_append, Ht.out]; rfl] at hv2
        subst hv2
        have hblk1 : ∀ k, (Value.slice A1 j cap1).ownBlock = some k → w.heap.size ≤ k := fun k hk => (Ho1.out.blk k hk).1
        have Hb4 : Hid (Below w.heap.size w w2) := hide (Hb3.out.grown hgr2 Hb3.out.size hblk1)
        have Ho2 := hide hown2
        have Hel3 := hide (Hel2.out w2)
        have Hc2 : Hid (CellsAt w2 g (j * 2) (flatO (xs.drop j))) := hide ((HL.out.cells.below Hb4.out HL.out.lt).drop1 hj)
        have HB2z := Hb4.out.size
        clear hown2 hgr2 hwh2
        refine Hold.go ?_
        go_wp2_with (at_builtin; refine app_allQ rfl (.tmp 43) (.tmp 46) 79 81 rfl Tryz.underlying79 infoOc2 rfl (by decide) (OccR.good 0) w2 w.heap.size (.slice A2 (j + 1) cap2) (xs.take j ++ [o]) Ho2.out rfl (xs.drop j) (flatO (xs.drop j)) Hel3.out Hf2.out g (j * 2) (xs.length - j) (cap - j) (by first | rfl | (simp [go_sem]; done) | (simp [go_sem]; omega)) Hd.out Hc2.out (flatO_one _) (by rw [List.length_append, Ht.out, Hd.out]; simp; omega) (by rw [List.length_append, Ht.out, Hd.out]; simp; omega) HB2z ?_; intro v3 w3 hown3 hgr3 hwh3; refine hold ?_)
        rw [List.append_assoc, List.singleton_append, ← Hins.out] at hown3
        obtain ⟨A3, cap3, hv3, hlc3, hm3⟩ := hown3.form
        have Hb5 : Hid (Below w.heap.size w w3) := hide (Hb4.out.grown hgr3 Hb4.out.size (fun k hk => (Ho2.out.blk k hk).1))
        subst hv3
        have Ho3 := hide hown3
        clear hown3 hgr3 hwh3
        refine Hold.go ?_
        go_wp2_with fail
        go_ret
        obtain ⟨g3, rfl, hLR⟩ := Ho3.out.toLR (insO_ne xs o)
        exact ⟨g3, cap3, rfl, hLR.mono hB, Hb5.out⟩
end Go.Proofs.YthlhhnnlbpecnaaGreat
