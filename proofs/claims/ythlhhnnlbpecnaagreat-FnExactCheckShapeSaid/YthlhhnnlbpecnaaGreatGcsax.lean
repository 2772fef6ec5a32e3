/- Several texts of one proof in one file: The attributes that a rule must define: the reference's. The rules of a symbol, by their names: both sides. Conditions: each theorem names its own. -/
import Derived.Test.YthlhhnnlbpecnaaGreatGcsal
import Derived.Deep.RegionHeld3
import Derived.Sort.AtCall
import Derived.Test.YthlhhnnlbpecnaaGreatGcsaj

/- The attributes that a rule must define: the reference's. Conditions: grammar and rule have at most the size 2^20 each, and the list is not too long. -/
namespace Go.Proofs.YthlhhnnlbpecnaaGreat
set_option linter.unusedSimpArgs false
set_option linter.unusedVariables false
set_option maxRecDepth 100000
open Go.RowKit Go.WideShapes
set_option linter.unusedVariables false
set_option maxRecDepth 100000 in
set_option maxHeartbeats 8000000 in
theorem s_RequiredOccurrences (D : Nat) (g : Grm) (x : Rul) (cg cr : List Value) (Fg Fr : List Nat) (w : World) (hg : GrmR D w g cg Fg) (hr : RulR D w x cr Fr) (hbj : ReqJ D g x) :
    Calls Tryz.prog 71 #[.agg cg.toArray, .agg cr.toArray] w fun en w' => ∃ v' G, en = .returned v' ∧ SlR 2 (OccR D) w' (reqO g x) v' G ∧ Fresh w.heap.size w' G ∧ Below w.heap.size w w' := by
  have Hbk : Hid (bulkGrm D g ≤ 1048576) := hide hbj.grm
  have hrb : x.right.length ≤ 1048576 := (bulk_rul hbj.rul).1
  have Hbj := hide hbj
  have LG := hide ((GrmR.good D).lt hg)
  have LR := hide ((RulR.good D).lt hr)
  obtain ⟨p0, p1, rfl⟩ := list2 ((GrmR.good D).len hg)
  obtain ⟨r0, r1, r2, r3, r4, r5, rfl⟩ := list_6 ((RulR.good D).len hr)
  have Hg : Hid (∀ W : World, Below w.heap.size w W → GrmR D W g [p0, p1] Fg) := hide fun W hW => (GrmR.good D).below hg hW LG.out
  obtain ⟨A2, k2, hr2⟩ : ∃ A2 k2, r2 = .slice A2 x.right.length k2 := by
    obtain ⟨v2, _, _, _, _, _, _, _, _, _, ⟨h2, g2⟩, _⟩ := hr
    obtain ⟨A2, k2, h3, h4, h5⟩ := g2.form
    exact ⟨A2, k2, by rw [← h3]; exact Option.some.inj h2⟩
  subst hr2
  have Hr : Hid (∀ W : World, Below w.heap.size w W → RulR D W x [r0, r1, .slice A2 x.right.length k2, r3, r4, r5] Fr) := hide fun W hW => (RulR.good D).below hr hW LR.out
  obtain ⟨CG, CR, hz0, hw0⟩ := boxes2 w [p0, p1] [r0, r1, .slice A2 x.right.length k2, r3, r4, r5] 32 50
  show Calls _ _ #[.agg #[p0, p1], .agg #[r0, r1, .slice A2 x.right.length k2, r3, r4, r5]] w _
  have hia : (Tryz.prog.info? 44).map (·.size) = some 4 := by kernel_rfl
  have Hia := hide hia
  clear hg hr hbj hia
  go_enter Tryz.func71, Tryz.ntmps71
  go_wp2_with fail
  generalize (w.alloc (Obj.cells #[p0, p1] 32)).alloc (Obj.cells #[r0, r1, .slice A2 x.right.length k2, r3, r4, r5] 50) = W0 at CG CR hz0 hw0 ⊢
  have hn0 : w.heap.size + 2 ≤ W0.heap.size := by omega
  have Hw : Hid (∀ W : World, Below (w.heap.size + 2) W0 W → Below w.heap.size w W) := hide fun W h => hw0.trans (h.mono (by omega))
  have hB0 : Below (w.heap.size + 2) W0 W0 := Below.refl _ _
  have a0 := cell_rule CG (n := w.heap.size + 2) (by omega) 0 rfl
  have a1 := cell_rule CG (n := w.heap.size + 2) (by omega) 1 rfl
  have b0 := cell_rule CR (n := w.heap.size + 2) (by omega) 0 rfl
  have b1 := cell_rule CR (n := w.heap.size + 2) (by omega) 1 rfl
  have b2 := cell_rule CR (n := w.heap.size + 2) (by omega) 2 rfl
  have b3 := cell_rule CR (n := w.heap.size + 2) (by omega) 3 rfl
  have b4 := cell_rule CR (n := w.heap.size + 2) (by omega) 4 rfl
  have b5 := cell_rule CR (n := w.heap.size + 2) (by omega) 5 rfl
  have hBa0 : ∀ (W : World) (o : Obj), Below (w.heap.size + 2) W0 W → Below (w.heap.size + 2) W0 (W.alloc o) := fun W o h => below_alloc hn0 o h
  have Hz0 := hide hz0
  have N0 : ∀ W : World, (W.alloc (.cells #[.string ⟨#[]⟩, .slice none 0 0] 42)).cell? ⟨W.heap.size, 0, none⟩ = some (.string ⟨#[]⟩) := fun W => cell_of_row _ _ 0 _ _ _ (heap_alloc_new W _)
  have N1 : ∀ W : World, (W.alloc (.cells #[.string ⟨#[]⟩, .slice none 0 0] 42)).cell? ⟨W.heap.size, 1, none⟩ = some (.slice none 0 0) := fun W => cell_of_row _ _ 1 _ _ _ (heap_alloc_new W _)
  have M0 : ∀ W : World, (W.alloc (.cells #[.string ⟨#[]⟩, .slice none 0 0] 42)).frozen? ⟨W.heap.size, 0, none⟩ = false := fun W => frozen_of_row _ _ 0 _ _ (heap_alloc_new W _)
  have M1 : ∀ W : World, (W.alloc (.cells #[.string ⟨#[]⟩, .slice none 0 0] 42)).frozen? ⟨W.heap.size, 1, none⟩ = false := fun W => frozen_of_row _ _ 1 _ _ (heap_alloc_new W _)
  clear CG CR hz0 hw0
  go_wp2_with fail
  go_loopw [5, 6] (fun o i wr => ∃ n : Nat, n ≤ x.right.length + 1 ∧ i = .int .i64 n ∧ Hid (OwnS 2 (OccR D) (w.heap.size + 2) 81 wr (reqT g x n) o []) ∧ Hid (Below (w.heap.size + 2) W0 wr)) (fun _ i _ => x.right.length + 1 - (intOf i).toNat)
  case atStart => exact ⟨0, by omega, rfl, hide (show OwnS 2 (OccR D) _ _ _ [] _ [] from by have h := OwnS.made (n := 2) (R := OccR D) (e := 81) W0 hn0; rw [Hz0.out] at h; exact h), hide (hB0.alloc hn0 _)⟩
  case round =>
    obtain ⟨n, hn, rfl, Ho, Hb⟩ := hrel
    obtain ⟨wo, rfl⟩ : ∃ wo, wo = wr := ⟨_, rfl⟩
    have hBr := Hb.out
    by_cases hlt : n < x.right.length + 1
    · have hj0 : (0 : Int) ≤ (n : Int) := by omega
      have hj1 : (n : Int) < (x.right.length : Int) + 1 := by omega
      have hj2 : (n : Int) ≤ (x.right.length : Int) := by omega
      have hnn : n ≤ x.right.length := by omega
      have hpos : (Lit.int .i64 (n : Int)).wf = true := by
        have e1 : IntKind.i64.min = -9223372036854775808 := rfl
        have e2 : IntKind.i64.max = 9223372036854775807 := rfl
        simp [Lit.wf, e1, e2]
        omega
      have hbase : w.heap.size + 2 ≤ wo.heap.size := Nat.le_trans hn0 hBr.size
      have Hb2 : Hid (∀ W : World, Below wo.heap.size wo W → Below (w.heap.size + 2) W0 W) := hide fun W h => hBr.trans (h.mono hbase)
      have hR0 : Below wo.heap.size wo wo := Below.refl _ _
      obtain ⟨m, hm⟩ : ∃ m, dueMode n = m := ⟨_, rfl⟩
      have Hm := hide hm
      rcases Nat.eq_zero_or_pos n with h0 | h0
      · subst h0
        have hz0 : ((0 : Nat) : Int) = 0 := rfl
        obtain rfl : m = 2 := hm.symm.trans (dueMode_zero rfl)
        have hpos : (Lit.int .i64 (0 : Int)).wf = true := by decide
        clear hm hj0
        go_wp2_with fail
        go_region_held3 (fun W => Below (w.heap.size + 2) W0 W)
          (first | assumption | exact Below.drew (by assumption) | exact below_alloc hn0 _ (by assumption) | exact Below.drew (below_alloc hn0 _ (by assumption)) | exact below_set2 (by assumption) (by omega))
          (first
            | (go_at_call 70; refine Calls.mono (s_SymbolAt D x _ Fr _ (Hr.out _ (Hw.out _ (by (repeat (first | assumption | apply Below.drew | refine below_alloc hn0 _ ?_))))) (0 : Int) hpos) ?_; rintro en w1 ⟨rfl, hb1⟩; have hB1 : Below (w.heap.size + 2) W0 w1 := below_step (by (repeat (first | assumption | apply Below.drew | refine below_alloc hn0 _ ?_))) hn0 hb1; have hR1 : Below wo.heap.size wo w1 := below_step (by (repeat (first | assumption | apply Below.drew | refine below_alloc (Nat.le_refl _) _ ?_))) (Nat.le_refl _) hb1; have hz1 := hR1.size; (first | have zb1 := zbox hb1 | have zb1 := zboxd hb1 | skip); clear hb1)
            | (go_at_call 69; refine Calls.mono (s_FindSymbol D g _ Fg _ (Hg.out _ (Hw.out _ (by (repeat (first | assumption | apply Below.drew | refine below_alloc hn0 _ ?_))))) (symAt x (0 : Int)) Hbk.out) ?_; rintro en w2 ⟨us, F2, rfl, hR2', hF2, hb2⟩; have hF2 := hF2.from_; generalize hX : (findS g.symbols (symAt x (0 : Int))).getD Sym.zero = X at hR2'; have HX := hide hX; clear hX; obtain ⟨A, cap, hus, HR2⟩ := sym_form hR2'; subst hus; have hB2 : Below (w.heap.size + 2) W0 w2 := below_step (by (repeat (first | assumption | apply Below.drew | refine below_alloc hn0 _ ?_))) hn0 hb2; have hR2 : Below wo.heap.size wo w2 := below_step (by (repeat (first | assumption | apply Below.drew | refine below_alloc (Nat.le_refl _) _ ?_))) (Nat.le_refl _) hb2; have hz2 := hR2.size
               (first | have zb2 := zcarry zb1 hb2 | have zb2 := zbox hb2 | have zb2 := zboxd hb2 | skip)
               (first
                 | (have q0 := cell_at (i := 0) zb2.1 (by simp); have q1 := cell_at (i := 1) zb2.1 (by simp); simp only [Array.getD_eq_getD_getElem?, List.getElem?_toArray, List.getElem?_cons_succ, List.getElem?_cons_zero, Option.getD_some] at q0 q1; have z0 := frozen_of_row w2 _ 0 _ _ zb2.1; have z1 := frozen_of_row w2 _ 1 _ _ zb2.1; (try simp only [drew_heap] at q0); (try simp only [drew_heap] at q1); (try simp only [drew_heap] at z0); (try simp only [drew_heap] at z1))
                 | skip)
               clear hb2))
        all_goals
          first
          | (have C : CellsAt _ w1.heap.size 0 _ := cells_set2 zb2.1 (.string X.name) (.slice A X.attrs.length cap)
             have hWF : ∀ k, k ≠ w1.heap.size → ((w2.setCell ⟨w1.heap.size, 0, none⟩ (.string X.name)).setCell ⟨w1.heap.size, 1, none⟩ (.slice A X.attrs.length cap)).heap[k]? = w2.heap[k]? := fun k hk => far_set2 _ _ _ _ _ hk
             have hne : ∀ k ∈ F2, k ≠ w1.heap.size := fun k hk => by have h7 := hF2 k hk; first | (simp at h7; omega) | (have := zb1.2; omega)
             have hsz : w2.heap.size ≤ ((w2.setCell ⟨w1.heap.size, 0, none⟩ (.string X.name)).setCell ⟨w1.heap.size, 1, none⟩ (.slice A X.attrs.length cap)).heap.size := by simp
             have hk2 : w1.heap.size < ((w2.setCell ⟨w1.heap.size, 0, none⟩ (.string X.name)).setCell ⟨w1.heap.size, 1, none⟩ (.slice A X.attrs.length cap)).heap.size := by have := zb2.2; simpa using this
             have hRF := below_set2 (u := .string X.name) (v := .slice A X.attrs.length cap) hR2 (g := w1.heap.size) (by omega)
             generalize ((w2.setCell ⟨w1.heap.size, 0, none⟩ (.string X.name)).setCell ⟨w1.heap.size, 1, none⟩ (.slice A X.attrs.length cap)) = WF at *
             generalize hkb : w1.heap.size = kb at C hWF hne hk2 ⊢
             have hk1 : wo.heap.size ≤ kb := by omega
             clear hkb
             have hFr := fun k (hk : k ∈ F2) => hWF k (hne k hk))
          | (have C : CellsAt _ wo.heap.size 0 _ := cells_set2 zb2.1 (.string X.name) (.slice A X.attrs.length cap)
             have hWF : ∀ k, k ≠ wo.heap.size → ((w2.setCell ⟨wo.heap.size, 0, none⟩ (.string X.name)).setCell ⟨wo.heap.size, 1, none⟩ (.slice A X.attrs.length cap)).heap[k]? = w2.heap[k]? := fun k hk => far_set2 _ _ _ _ _ hk
             have hne : ∀ k ∈ F2, k ≠ wo.heap.size := fun k hk => by have h7 := hF2 k hk; first | (simp at h7; omega) | (have := zb1.2; omega)
             have hsz : w2.heap.size ≤ ((w2.setCell ⟨wo.heap.size, 0, none⟩ (.string X.name)).setCell ⟨wo.heap.size, 1, none⟩ (.slice A X.attrs.length cap)).heap.size := by simp
             have hk2 : wo.heap.size < ((w2.setCell ⟨wo.heap.size, 0, none⟩ (.string X.name)).setCell ⟨wo.heap.size, 1, none⟩ (.slice A X.attrs.length cap)).heap.size := by have := zb2.2; simpa using this
             have hRF := below_set2 (u := .string X.name) (v := .slice A X.attrs.length cap) hR2 (g := wo.heap.size) (by omega)
             generalize ((w2.setCell ⟨wo.heap.size, 0, none⟩ (.string X.name)).setCell ⟨wo.heap.size, 1, none⟩ (.slice A X.attrs.length cap)) = WF at *
             generalize hkb : wo.heap.size = kb at C hWF hne hk2 ⊢
             have hk1 : wo.heap.size ≤ kb := by omega
             clear hkb
             have hFr := fun k (hk : k ∈ F2) => hWF k (hne k hk))
          | (have C := CellsAt.new w2 [.string X.name, .slice A X.attrs.length cap] 42
             have hB9 : Below w2.heap.size w2 (w2.alloc (Obj.cells #[.string X.name, .slice A X.attrs.length cap] 42)) := (Below.refl w2.heap.size w2).alloc (Nat.le_refl _) _
             have hFr : ∀ k ∈ F2, (w2.alloc (Obj.cells #[.string X.name, .slice A X.attrs.length cap] 42)).heap[k]? = w2.heap[k]? := fun k hk => hB9.block k ((SymR.good D).lt HR2.out.1 k hk)
             have hsz := hB9.size
             have hk2 : w2.heap.size < (w2.alloc (Obj.cells #[.string X.name, .slice A X.attrs.length cap] 42)).heap.size := by rw [World.size_alloc]; exact Nat.lt_succ_self _
             have hRF := below_alloc (Nat.le_refl _) (Obj.cells #[.string X.name, .slice A X.attrs.length cap] 42) hR2
             clear hB9
             generalize (w2.alloc (Obj.cells #[.string X.name, .slice A X.attrs.length cap] 42)) = WF at *
             generalize hkb : w2.heap.size = kb at C hk2 ⊢
             have hk1 : wo.heap.size ≤ kb := by omega
             clear hkb)
        all_goals
          have hF : Below (w.heap.size + 2) W0 WF := by assumption
          have s1 := C 1 _ rfl
          simp only [Nat.zero_add] at s1
          have hzF := hRF.size
          have hkc := HR2.out.2
          have hR9 := (SymR.good D).frame HR2.out.1 hFr hsz
          obtain ⟨v1, F1, _, hk9, h09, ⟨h19, g1⟩, hF9⟩ := hR9
          subst hF9
          obtain rfl := Option.some.inj h19
          have hl9 := g1.lt (AtrR.good D)
          have Hsl : Hid (∀ W : World, Below (w.heap.size + 2) W0 W → (∀ k, wo.heap.size ≤ k → k < WF.heap.size → W.heap[k]? = WF.heap[k]?) → WF.heap.size ≤ W.heap.size → SlR 4 (AtrR D) W X.attrs (.slice A X.attrs.length cap) F2) := hide fun W hW hr hz => g1.frame (AtrR.good D) (fun k hk => hr k (by have h7 := hF2 k hk; first | omega | (simp at h7; omega)) (hl9 k hk)) hz
          have hal : X.attrs.length ≤ 9223372036854775807 := by have := hkc.1; have := hkc.2; unfold maxLen at this; omega
          have HF := hide hF
          have Hroom := hide fun j => req_room Hbj.out (n := 0) (by omega) HX.out 2 j
          have HRF := hide hRF
          have Ho0 := hide (Ho.out.below (OccR.good D) hRF)
          have Hbk0 := hide (Ho.out.blk)
          clear HR2 hkc hk9 h09 h19 g1 hl9 hF2 C hFr hRF
          go_wp2_with fail
          go_loopw [5, 10] (fun o i wr => ∃ j : Nat, j ≤ X.attrs.length ∧ i = .int .i64 j ∧ Hid (OwnS 2 (OccR D) (w.heap.size + 2) 81 wr (reqT g x 0 ++ dueP X.attrs 2 0 j) o []) ∧ Hid (Below (w.heap.size + 2) W0 wr) ∧ Hid (∀ k, wo.heap.size ≤ k → k < WF.heap.size → wr.heap[k]? = WF.heap[k]?) ∧ Hid (WF.heap.size ≤ wr.heap.size) ∧ Hid (∀ k, o.ownBlock = some k → k < wo.heap.size ∨ WF.heap.size ≤ k)) (fun _ i _ => X.attrs.length - (intOf i).toNat)
          case atStart => exact ⟨0, by omega, rfl, hide (by rw [dueP_zero, List.append_nil]; exact Ho0.out), HF, hide (fun _ _ _ => rfl), hide (Nat.le_refl _), hide (fun k hk => .inl (Hbk0.out k hk).2)⟩
          case round =>
            obtain ⟨j, hj, rfl, Hq, Hqb, Hqr, Hqz, Hqo⟩ := hrel
            have hQb := Hqb.out
            have hbq : w.heap.size + 2 ≤ wr.heap.size := Nat.le_trans hn0 hQb.size
            by_cases hlj : j < X.attrs.length
            · have hY : X.attrs[j]? = some X.attrs[j] := List.getElem?_eq_getElem hlj
              generalize X.attrs[j] = Y at hY
              obtain ⟨b, off, cs, Fk, hA, hbz, _, _, hcl, hcat, hRY⟩ := SlR.get (AtrR.good D) (Hsl.out wr hQb Hqr.out Hqz.out) hY
              subst hA
              obtain ⟨y0, y1, y2, y3, rfl⟩ := list4 hcl
              have H1 := hide (AtrR.one hRY)
              obtain ⟨_, hyk, h0, h1, h2, h3, _⟩ := hRY
              obtain rfl := Option.some.inj h0
              obtain rfl := Option.some.inj h1
              obtain rfl := Option.some.inj h2
              obtain rfl := Option.some.inj h3
              have HY := hide hY
              have Hyk := hide hyk
              have Hn4 : Hid (([.string Y.name, .int .i64 Y.type, .int .i64 Y.mode, .bool Y.circ] : List Value).length = 4) := hide rfl
              have Hc := hide hcat
              have p0 : wr.cell? ⟨b, off + j * 4, none⟩ = some (.string Y.name) := hcat 0 _ rfl
              have p2 : wr.cell? ⟨b, off + j * 4 + 2, none⟩ = some (.int .i64 Y.mode) := hcat 2 _ rfl
              have hj0 : (0 : Int) ≤ (j : Int) := by omega
              have hj1 : (j : Int) < (X.attrs.length : Int) := by omega
              clear hY hcl hcat hyk h0 h1 h2 h3 hbz
              have s1 : wr.cell? ⟨kb, 1, none⟩ = some (.slice (some ⟨b, off, none⟩) X.attrs.length cap) := (World.cell?_of_block (w := WF) (w' := wr) (Hqr.out kb hk1 hk2)).trans s1
              have Hwr : Hid (Below wr.heap.size wr wr) := hide (Below.refl _ _)
              have Hzv := hide Hwr.out.size
              by_cases hq : Y.mode = 2
              · have Hk := hide (dueP_keep (m := 2) (n := 0) HY.out hq)
                have hlen := Hroom.out j
                have Hpo : Hid ((⟨(0 : Int), Y.name⟩ : Occ).ok) := hide ⟨hpos, Hyk.out.name⟩
                go_wp2_with (at_builtin; refine app_ownS2 rfl (.tmp 44) (.tmp 53) 79 81 rfl Tryz.underlying79 infoOcc rfl (by decide) (OccR.good D) wr wr (w.heap.size + 2) _ (reqT g x 0 ++ dueP X.attrs 2 0 j) [] Hq.out rfl Hwr.out ⟨(0 : Int), Y.name⟩ [.int .i64 (0 : Int), .string Y.name] [] ⟨rfl, Hpo.out, rfl, rfl, rfl⟩ (Fresh.nil _ _) (by simp [Value.oneCell']) rfl (by omega) (by omega) hbq ?_; intro v1 w3 hown hbl hkeep hgz hob; have Hown := hide hown; have Hbl := hide hbl; have Hkeep := hide hkeep; have Hgz := hide hgz; have Hob := hide hob; clear hown hbl hkeep hgz hob)
                go_roundw
                case rel =>
                  exact ⟨j + 1, by omega, by go_num, hide (by rw [Hk.out, ← List.append_assoc]; exact Hown.out), hide (Hqb.out.trans Hbl.out), hide (fun k h1 h2 => by
                    have h3 : wr.heap[k]? = wr.heap[k]? := Hwr.out.block k (by have := Hqz.out; omega)
                    have h4 := Hkeep.out k (by have := Hqz.out; have := Hzv.out; omega) (fun he => by have := Hqo.out k he; omega)
                    rw [h4, h3]
                    exact Hqr.out k h1 h2), hide (Nat.le_trans Hqz.out (Nat.le_trans Hzv.out Hgz.out)), hide (fun k hk => by
                    rcases Hob.out k hk with h5 | h5
                    · exact Hqo.out k h5
                    · have := Hqz.out; have := Hzv.out; omega)⟩
                case measure => simp [intOf]; omega
              · have Hk := hide (dueP_drop (m := 2) (n := 0) HY.out hq)
                have Hq1 := hide (Hq.out.below (OccR.good D) Hwr.out)
                go_wp2_with fail
                go_roundw
                case rel =>
                  exact ⟨j + 1, by omega, by go_num, hide (by rw [Hk.out]; exact Hq1.out), hide (Hqb.out.trans (Hwr.out.mono hbq)), hide (fun k h1 h2 => by
                    have h3 : wr.heap[k]? = wr.heap[k]? := Hwr.out.block k (by have := Hqz.out; omega)
                    rw [h3]
                    exact Hqr.out k h1 h2), hide (Nat.le_trans Hqz.out Hzv.out), Hqo⟩
                case measure => simp [intOf]; omega
            · have hjl : j = X.attrs.length := by omega
              subst hjl
              have Hfin : Hid (reqT g x (0 + 1) = reqT g x 0 ++ dueP X.attrs 2 0 X.attrs.length) := hide (by rw [reqT_succ, dueP_all HX.out Hm.out])
              have s1 : wr.cell? ⟨kb, 1, none⟩ = some (.slice A X.attrs.length cap) := (World.cell?_of_block (w := WF) (w' := wr) (Hqr.out kb hk1 hk2)).trans s1
              go_wp2_with fail
              go_roundw
              case rel => exact ⟨0 + 1, by omega, by go_num, hide (by rw [Hfin.out]; exact Hq.out), Hqb⟩
              case measure => simp [intOf]
      · have hp : ¬ (n : Int) = 0 := by omega
        obtain rfl : m = 1 := hm.symm.trans (dueMode_pos (by omega))
        clear hm
        go_wp2_with fail
        go_region_held3 (fun W => Below (w.heap.size + 2) W0 W)
          (first | assumption | exact Below.drew (by assumption) | exact below_alloc hn0 _ (by assumption) | exact Below.drew (below_alloc hn0 _ (by assumption)) | exact below_set2 (by assumption) (by omega))
          (first
            | (go_at_call 70; refine Calls.mono (s_SymbolAt D x _ Fr _ (Hr.out _ (Hw.out _ (by (repeat (first | assumption | apply Below.drew | refine below_alloc hn0 _ ?_))))) (n : Int) hpos) ?_; rintro en w1 ⟨rfl, hb1⟩; have hB1 : Below (w.heap.size + 2) W0 w1 := below_step (by (repeat (first | assumption | apply Below.drew | refine below_alloc hn0 _ ?_))) hn0 hb1; have hR1 : Below wo.heap.size wo w1 := below_step (by (repeat (first | assumption | apply Below.drew | refine below_alloc (Nat.le_refl _) _ ?_))) (Nat.le_refl _) hb1; have hz1 := hR1.size; (first | have zb1 := zbox hb1 | have zb1 := zboxd hb1 | skip); clear hb1)
            | (go_at_call 69; refine Calls.mono (s_FindSymbol D g _ Fg _ (Hg.out _ (Hw.out _ (by (repeat (first | assumption | apply Below.drew | refine below_alloc hn0 _ ?_))))) (symAt x (n : Int)) Hbk.out) ?_; rintro en w2 ⟨us, F2, rfl, hR2', hF2, hb2⟩; have hF2 := hF2.from_; generalize hX : (findS g.symbols (symAt x (n : Int))).getD Sym.zero = X at hR2'; have HX := hide hX; clear hX; obtain ⟨A, cap, hus, HR2⟩ := sym_form hR2'; subst hus; have hB2 : Below (w.heap.size + 2) W0 w2 := below_step (by (repeat (first | assumption | apply Below.drew | refine below_alloc hn0 _ ?_))) hn0 hb2; have hR2 : Below wo.heap.size wo w2 := below_step (by (repeat (first | assumption | apply Below.drew | refine below_alloc (Nat.le_refl _) _ ?_))) (Nat.le_refl _) hb2; have hz2 := hR2.size
               (first | have zb2 := zcarry zb1 hb2 | have zb2 := zbox hb2 | have zb2 := zboxd hb2 | skip)
               (first
                 | (have q0 := cell_at (i := 0) zb2.1 (by simp); have q1 := cell_at (i := 1) zb2.1 (by simp); simp only [Array.getD_eq_getD_getElem?, List.getElem?_toArray, List.getElem?_cons_succ, List.getElem?_cons_zero, Option.getD_some] at q0 q1; have z0 := frozen_of_row w2 _ 0 _ _ zb2.1; have z1 := frozen_of_row w2 _ 1 _ _ zb2.1; (try simp only [drew_heap] at q0); (try simp only [drew_heap] at q1); (try simp only [drew_heap] at z0); (try simp only [drew_heap] at z1))
                 | skip)
               clear hb2))
        all_goals
          first
          | (have C : CellsAt _ w1.heap.size 0 _ := cells_set2 zb2.1 (.string X.name) (.slice A X.attrs.length cap)
             have hWF : ∀ k, k ≠ w1.heap.size → ((w2.setCell ⟨w1.heap.size, 0, none⟩ (.string X.name)).setCell ⟨w1.heap.size, 1, none⟩ (.slice A X.attrs.length cap)).heap[k]? = w2.heap[k]? := fun k hk => far_set2 _ _ _ _ _ hk
             have hne : ∀ k ∈ F2, k ≠ w1.heap.size := fun k hk => by have h7 := hF2 k hk; first | (simp at h7; omega) | (have := zb1.2; omega)
             have hsz : w2.heap.size ≤ ((w2.setCell ⟨w1.heap.size, 0, none⟩ (.string X.name)).setCell ⟨w1.heap.size, 1, none⟩ (.slice A X.attrs.length cap)).heap.size := by simp
             have hk2 : w1.heap.size < ((w2.setCell ⟨w1.heap.size, 0, none⟩ (.string X.name)).setCell ⟨w1.heap.size, 1, none⟩ (.slice A X.attrs.length cap)).heap.size := by have := zb2.2; simpa using this
             have hRF := below_set2 (u := .string X.name) (v := .slice A X.attrs.length cap) hR2 (g := w1.heap.size) (by omega)
             generalize ((w2.setCell ⟨w1.heap.size, 0, none⟩ (.string X.name)).setCell ⟨w1.heap.size, 1, none⟩ (.slice A X.attrs.length cap)) = WF at *
             generalize hkb : w1.heap.size = kb at C hWF hne hk2 ⊢
             have hk1 : wo.heap.size ≤ kb := by omega
             clear hkb
             have hFr := fun k (hk : k ∈ F2) => hWF k (hne k hk))
          | (have C : CellsAt _ wo.heap.size 0 _ := cells_set2 zb2.1 (.string X.name) (.slice A X.attrs.length cap)
             have hWF : ∀ k, k ≠ wo.heap.size → ((w2.setCell ⟨wo.heap.size, 0, none⟩ (.string X.name)).setCell ⟨wo.heap.size, 1, none⟩ (.slice A X.attrs.length cap)).heap[k]? = w2.heap[k]? := fun k hk => far_set2 _ _ _ _ _ hk
             have hne : ∀ k ∈ F2, k ≠ wo.heap.size := fun k hk => by have h7 := hF2 k hk; first | (simp at h7; omega) | (have := zb1.2; omega)
             have hsz : w2.heap.size ≤ ((w2.setCell ⟨wo.heap.size, 0, none⟩ (.string X.name)).setCell ⟨wo.heap.size, 1, none⟩ (.slice A X.attrs.length cap)).heap.size := by simp
             have hk2 : wo.heap.size < ((w2.setCell ⟨wo.heap.size, 0, none⟩ (.string X.name)).setCell ⟨wo.heap.size, 1, none⟩ (.slice A X.attrs.length cap)).heap.size := by have := zb2.2; simpa using this
             have hRF := below_set2 (u := .string X.name) (v := .slice A X.attrs.length cap) hR2 (g := wo.heap.size) (by omega)
             generalize ((w2.setCell ⟨wo.heap.size, 0, none⟩ (.string X.name)).setCell ⟨wo.heap.size, 1, none⟩ (.slice A X.attrs.length cap)) = WF at *
             generalize hkb : wo.heap.size = kb at C hWF hne hk2 ⊢
             have hk1 : wo.heap.size ≤ kb := by omega
             clear hkb
             have hFr := fun k (hk : k ∈ F2) => hWF k (hne k hk))
          | (have C := CellsAt.new w2 [.string X.name, .slice A X.attrs.length cap] 42
             have hB9 : Below w2.heap.size w2 (w2.alloc (Obj.cells #[.string X.name, .slice A X.attrs.length cap] 42)) := (Below.refl w2.heap.size w2).alloc (Nat.le_refl _) _
             have hFr : ∀ k ∈ F2, (w2.alloc (Obj.cells #[.string X.name, .slice A X.attrs.length cap] 42)).heap[k]? = w2.heap[k]? := fun k hk => hB9.block k ((SymR.good D).lt HR2.out.1 k hk)
             have hsz := hB9.size
             have hk2 : w2.heap.size < (w2.alloc (Obj.cells #[.string X.name, .slice A X.attrs.length cap] 42)).heap.size := by rw [World.size_alloc]; exact Nat.lt_succ_self _
             have hRF := below_alloc (Nat.le_refl _) (Obj.cells #[.string X.name, .slice A X.attrs.length cap] 42) hR2
             clear hB9
             generalize (w2.alloc (Obj.cells #[.string X.name, .slice A X.attrs.length cap] 42)) = WF at *
             generalize hkb : w2.heap.size = kb at C hk2 ⊢
             have hk1 : wo.heap.size ≤ kb := by omega
             clear hkb)
        all_goals
          have hF : Below (w.heap.size + 2) W0 WF := by assumption
          have s1 := C 1 _ rfl
          simp only [Nat.zero_add] at s1
          have hzF := hRF.size
          have hkc := HR2.out.2
          have hR9 := (SymR.good D).frame HR2.out.1 hFr hsz
          obtain ⟨v1, F1, _, hk9, h09, ⟨h19, g1⟩, hF9⟩ := hR9
          subst hF9
          obtain rfl := Option.some.inj h19
          have hl9 := g1.lt (AtrR.good D)
          have Hsl : Hid (∀ W : World, Below (w.heap.size + 2) W0 W → (∀ k, wo.heap.size ≤ k → k < WF.heap.size → W.heap[k]? = WF.heap[k]?) → WF.heap.size ≤ W.heap.size → SlR 4 (AtrR D) W X.attrs (.slice A X.attrs.length cap) F2) := hide fun W hW hr hz => g1.frame (AtrR.good D) (fun k hk => hr k (by have h7 := hF2 k hk; first | omega | (simp at h7; omega)) (hl9 k hk)) hz
          have hal : X.attrs.length ≤ 9223372036854775807 := by have := hkc.1; have := hkc.2; unfold maxLen at this; omega
          have HF := hide hF
          have Hroom := hide fun j => req_room Hbj.out (n := n) (by omega) HX.out 1 j
          have HRF := hide hRF
          have Ho0 := hide (Ho.out.below (OccR.good D) hRF)
          have Hbk0 := hide (Ho.out.blk)
          clear HR2 hkc hk9 h09 h19 g1 hl9 hF2 C hFr hRF
          go_wp2_with fail
          clear hp h0
          generalize ((n : Int) == 0) = tb
          go_loopw [5, 10] (fun o i wr => ∃ j : Nat, j ≤ X.attrs.length ∧ i = .int .i64 j ∧ Hid (OwnS 2 (OccR D) (w.heap.size + 2) 81 wr (reqT g x n ++ dueP X.attrs 1 n j) o []) ∧ Hid (Below (w.heap.size + 2) W0 wr) ∧ Hid (∀ k, wo.heap.size ≤ k → k < WF.heap.size → wr.heap[k]? = WF.heap[k]?) ∧ Hid (WF.heap.size ≤ wr.heap.size) ∧ Hid (∀ k, o.ownBlock = some k → k < wo.heap.size ∨ WF.heap.size ≤ k)) (fun _ i _ => X.attrs.length - (intOf i).toNat)
          case atStart => exact ⟨0, by omega, rfl, hide (by rw [dueP_zero, List.append_nil]; exact Ho0.out), HF, hide (fun _ _ _ => rfl), hide (Nat.le_refl _), hide (fun k hk => .inl (Hbk0.out k hk).2)⟩
          case round =>
            obtain ⟨j, hj, rfl, Hq, Hqb, Hqr, Hqz, Hqo⟩ := hrel
            have hQb := Hqb.out
            have hbq : w.heap.size + 2 ≤ wr.heap.size := Nat.le_trans hn0 hQb.size
            by_cases hlj : j < X.attrs.length
            · have hY : X.attrs[j]? = some X.attrs[j] := List.getElem?_eq_getElem hlj
              generalize X.attrs[j] = Y at hY
              obtain ⟨b, off, cs, Fk, hA, hbz, _, _, hcl, hcat, hRY⟩ := SlR.get (AtrR.good D) (Hsl.out wr hQb Hqr.out Hqz.out) hY
              subst hA
              obtain ⟨y0, y1, y2, y3, rfl⟩ := list4 hcl
              have H1 := hide (AtrR.one hRY)
              obtain ⟨_, hyk, h0, h1, h2, h3, _⟩ := hRY
              obtain rfl := Option.some.inj h0
              obtain rfl := Option.some.inj h1
              obtain rfl := Option.some.inj h2
              obtain rfl := Option.some.inj h3
              have HY := hide hY
              have Hyk := hide hyk
              have Hn4 : Hid (([.string Y.name, .int .i64 Y.type, .int .i64 Y.mode, .bool Y.circ] : List Value).length = 4) := hide rfl
              have Hc := hide hcat
              have p0 : wr.cell? ⟨b, off + j * 4, none⟩ = some (.string Y.name) := hcat 0 _ rfl
              have p2 : wr.cell? ⟨b, off + j * 4 + 2, none⟩ = some (.int .i64 Y.mode) := hcat 2 _ rfl
              have hj0 : (0 : Int) ≤ (j : Int) := by omega
              have hj1 : (j : Int) < (X.attrs.length : Int) := by omega
              clear hY hcl hcat hyk h0 h1 h2 h3 hbz
              have s1 : wr.cell? ⟨kb, 1, none⟩ = some (.slice (some ⟨b, off, none⟩) X.attrs.length cap) := (World.cell?_of_block (w := WF) (w' := wr) (Hqr.out kb hk1 hk2)).trans s1
              have Hwr : Hid (Below wr.heap.size wr wr) := hide (Below.refl _ _)
              have Hzv := hide Hwr.out.size
              by_cases hq : Y.mode = 1
              · have Hk := hide (dueP_keep (m := 1) (n := n) HY.out hq)
                have hlen := Hroom.out j
                have Hpo : Hid ((⟨(n : Int), Y.name⟩ : Occ).ok) := hide ⟨hpos, Hyk.out.name⟩
                go_wp2_with (at_builtin; refine app_ownS2 rfl (.tmp 44) (.tmp 53) 79 81 rfl Tryz.underlying79 infoOcc rfl (by decide) (OccR.good D) wr wr (w.heap.size + 2) _ (reqT g x n ++ dueP X.attrs 1 n j) [] Hq.out rfl Hwr.out ⟨(n : Int), Y.name⟩ [.int .i64 (n : Int), .string Y.name] [] ⟨rfl, Hpo.out, rfl, rfl, rfl⟩ (Fresh.nil _ _) (by simp [Value.oneCell']) rfl (by omega) (by omega) hbq ?_; intro v1 w3 hown hbl hkeep hgz hob; have Hown := hide hown; have Hbl := hide hbl; have Hkeep := hide hkeep; have Hgz := hide hgz; have Hob := hide hob; clear hown hbl hkeep hgz hob)
                go_roundw
                case rel =>
                  exact ⟨j + 1, by omega, by go_num, hide (by rw [Hk.out, ← List.append_assoc]; exact Hown.out), hide (Hqb.out.trans Hbl.out), hide (fun k h1 h2 => by
                    have h3 : wr.heap[k]? = wr.heap[k]? := Hwr.out.block k (by have := Hqz.out; omega)
                    have h4 := Hkeep.out k (by have := Hqz.out; have := Hzv.out; omega) (fun he => by have := Hqo.out k he; omega)
                    rw [h4, h3]
                    exact Hqr.out k h1 h2), hide (Nat.le_trans Hqz.out (Nat.le_trans Hzv.out Hgz.out)), hide (fun k hk => by
                    rcases Hob.out k hk with h5 | h5
                    · exact Hqo.out k h5
                    · have := Hqz.out; have := Hzv.out; omega)⟩
                case measure => simp [intOf]; omega
              · have Hk := hide (dueP_drop (m := 1) (n := n) HY.out hq)
                have Hq1 := hide (Hq.out.below (OccR.good D) Hwr.out)
                go_wp2_with fail
                go_roundw
                case rel =>
                  exact ⟨j + 1, by omega, by go_num, hide (by rw [Hk.out]; exact Hq1.out), hide (Hqb.out.trans (Hwr.out.mono hbq)), hide (fun k h1 h2 => by
                    have h3 : wr.heap[k]? = wr.heap[k]? := Hwr.out.block k (by have := Hqz.out; omega)
                    rw [h3]
                    exact Hqr.out k h1 h2), hide (Nat.le_trans Hqz.out Hzv.out), Hqo⟩
                case measure => simp [intOf]; omega
            · have hjl : j = X.attrs.length := by omega
              subst hjl
              have Hfin : Hid (reqT g x (n + 1) = reqT g x n ++ dueP X.attrs 1 n X.attrs.length) := hide (by rw [reqT_succ, dueP_all HX.out Hm.out])
              have s1 : wr.cell? ⟨kb, 1, none⟩ = some (.slice A X.attrs.length cap) := (World.cell?_of_block (w := WF) (w' := wr) (Hqr.out kb hk1 hk2)).trans s1
              go_wp2_with fail
              go_roundw
              case rel => exact ⟨n + 1, by omega, by go_num, hide (by rw [Hfin.out]; exact Hq.out), Hqb⟩
              case measure => simp [intOf]; omega
    · have hnl : n = x.right.length + 1 := by omega
      have hj1 : ¬ (n : Int) < (x.right.length : Int) + 1 := by omega
      have hj2 : ¬ (n : Int) ≤ (x.right.length : Int) := by omega
      go_wp2_with fail
      go_ret
      have h := Ho.out
      rw [hnl] at h
      obtain ⟨G, h1, h2⟩ := h.slr (OccR.good D)
      exact ⟨_, rfl, G, h1, h2.mono (by omega), Hw.out _ hBr⟩
end Go.Proofs.YthlhhnnlbpecnaaGreat

/- The rules of a symbol, by their names: both sides. Conditions: the grammar has at most the size 2^20. -/
namespace Go.Proofs.YthlhhnnlbpecnaaGreat
set_option linter.unusedSimpArgs false
set_option linter.unusedVariables false
set_option maxRecDepth 100000
open Go.RowKit Go.WideShapes
set_option linter.unusedVariables false

def rulesT (l : List Rul) (s : ByteArray) : List ByteArray := (l.filter fun r => r.left.toList == s.toList).map (·.name)
theorem rulesT_keep {l : List Rul} {s : ByteArray} {j : Nat} {x : Rul} (hx : l[j]? = some x) (h : (x.left.toList == s.toList) = true) : rulesT (l.take (j + 1)) s = rulesT (l.take j) s ++ [x.name] := by
  unfold rulesT
  rw [take_snoc hx, List.filter_append]
  simp [List.filter, h]
theorem rulesT_drop {l : List Rul} {s : ByteArray} {j : Nat} {x : Rul} (hx : l[j]? = some x) (h : (x.left.toList == s.toList) = false) : rulesT (l.take (j + 1)) s = rulesT (l.take j) s := by
  unfold rulesT
  rw [take_snoc hx, List.filter_append]
  simp [List.filter, h]
theorem rulesT_len (l : List Rul) (s : ByteArray) (j : Nat) : (rulesT (l.take j) s).length ≤ j := by
  unfold rulesT
  rw [List.length_map]
  exact Nat.le_trans (List.length_filter_le _ _) (List.length_take_le _ _)
theorem RulR.oks {D : Nat} {w : World} {x : Rul} {cs : List Value} {F : List Nat} (h : RulR D w x cs F) : x.ok := by
  obtain ⟨_, _, _, _, _, _, _, hk, _⟩ := h
  exact hk
end Go.Proofs.YthlhhnnlbpecnaaGreat
