/- Several texts of one proof in one file: May an equation use an occurrence: the reference's. One more element appended to an owned row, with what it leaves as it was. Plain. The attributes that a rule must define: plain laws. The closures of EqualRule and the comparison of slices by them. slices.EqualFunc over equations and contributions, with the closures of EqualRule. Values: what the functions on numbers, types and operators return, in the program and in the reference. Conditions: each theorem names its own. -/
import Derived.Test.YthlhhnnlbpecnaaGreatGcsak
import Derived.Test.YthlhhnnlbpecnaaGreatGcsaj
import Derived.Test.YthlhhnnlbpecnaaGreatGcsah
import Derived.Laws.StructEq
import Derived.Test.YthlhhnnlbpecnaaGreatRows
import Derived.Test.YthlhhnnlbpecnaaGreatGcsaa
import Derived.Laws.Bits64
import Derived.Laws.BitsAllLaws

/- May an equation use an occurrence: the reference's. Conditions: the grammar has at most the size 2^20. -/
namespace Go.Proofs.YthlhhnnlbpecnaaGreat
set_option linter.unusedSimpArgs false
set_option linter.unusedVariables false
set_option maxRecDepth 100000
open Go.RowKit Go.WideShapes
set_option linter.unusedVariables false
set_option maxRecDepth 100000 in
set_option maxHeartbeats 4000000 in
theorem s_MayUse (D : Nat) (g : Grm) (x : Rul) (y : Occ) (cg cr co : List Value) (Fg Fr Fo : List Nat) (w : World) (hg : GrmR D w g cg Fg) (hr : RulR D w x cr Fr) (ho : OccR D w y co Fo) (hbk : bulkGrm D g ≤ 1048576) :
    Calls Tryz.prog 109 #[.agg cg.toArray, .agg cr.toArray, .agg co.toArray] w fun en w' => en = .returned (.bool (mayU g x y)) ∧ Below w.heap.size w w' := by
  have Hbk := hide hbk
  clear hbk
  have LG := hide ((GrmR.good D).lt hg)
  have LR := hide ((RulR.good D).lt hr)
  obtain ⟨p0, p1, rfl⟩ := list2 ((GrmR.good D).len hg)
  obtain ⟨r0, r1, r2, r3, r4, r5, rfl⟩ := list_6 ((RulR.good D).len hr)
  obtain ⟨q0, q1, rfl⟩ := list2 ((OccR.good D).len ho)
  obtain ⟨_, hok, o0, o1, rfl⟩ := ho
  obtain rfl := Option.some.inj o0
  obtain rfl := Option.some.inj o1
  have Hg : Hid (∀ W : World, Below w.heap.size w W → GrmR D W g [p0, p1] Fg) := hide fun W hW => (GrmR.good D).below hg hW LG.out
  have Hr : Hid (∀ W : World, Below w.heap.size w W → RulR D W x [r0, r1, r2, r3, r4, r5] Fr) := hide fun W hW => (RulR.good D).below hr hW LR.out
  obtain ⟨A2, k2, hr2, hlc, hcm⟩ : ∃ A2 k2, r2 = .slice A2 x.right.length k2 ∧ x.right.length ≤ k2 ∧ k2 ≤ maxLen := by
    obtain ⟨v2, _, _, _, _, _, _, _, _, _, ⟨h2, g2⟩, _⟩ := hr
    obtain ⟨A2, k2, h3, h4, h5⟩ := g2.form
    exact ⟨A2, k2, by rw [← h3]; exact Option.some.inj h2, h4, h5⟩
  subst hr2
  unfold maxLen at hcm
  have Hok := hide hok
  have hpos := hok.pos
  have hrl : x.right.length ≤ 9223372036854775807 := by omega
  obtain ⟨CG, CR, CO, hz0, hw0⟩ := boxes3 w [p0, p1] [r0, r1, .slice A2 x.right.length k2, r3, r4, r5] [.int .i64 y.pos, .string y.name] 32 50 81
  show Calls _ _ #[.agg #[p0, p1], .agg #[r0, r1, .slice A2 x.right.length k2, r3, r4, r5], .agg #[.int .i64 y.pos, .string y.name]] w _
  clear hg hr hok o0 o1 hlc hcm
  have H1z : Hid (∀ v ∈ ([.string ⟨#[]⟩, .int .i64 0, .int .i64 0, .bool false] : List Value), v.oneCell' = true) := hide (AtrR.one (AtrR.zero D w))
  have hia : (Tryz.prog.info? 44).map (·.size) = some 4 := by kernel_rfl
  have Hia := hide hia
  clear hia
  by_cases hin : 0 ≤ y.pos ∧ y.pos ≤ x.right.length
  case neg =>
    have hin2 := inR_no hin
    have Hat : Hid (mayU g x y = false) := hide (by unfold mayU attrAt; rw [if_neg hin])
    clear hin
    go_enter Tryz.func109, Tryz.ntmps109
    go_wp2_with fail
    generalize ((w.alloc (Obj.cells #[p0, p1] 32)).alloc (Obj.cells #[r0, r1, .slice A2 x.right.length k2, r3, r4, r5] 50)).alloc (Obj.cells #[.int .i64 y.pos, .string y.name] 81) = W0 at CG CR CO hz0 hw0 ⊢
    have b2 := cell_rule CR (n := w.heap.size + 3) (by omega) 2 rfl
    have c0 := cell_rule CO (n := w.heap.size + 3) (by omega) 0 rfl
    have hB0 : Below (w.heap.size + 3) W0 W0 := Below.refl _ _
    have Hw0 := hide hw0
    clear CG CR CO hw0
    go_wp2_with (go_at_call 11; refine (s_l1In _ _ _ _).mono ?_; rintro e w' ⟨rfl, rfl⟩)
    go_ret
    exact ⟨by rw [Hat.out]; rfl, Hw0.out⟩
  have Hat : Hid (attrAt g x y = findA ((findS g.symbols (symAt x y.pos)).getD Sym.zero).attrs y.name) := hide (by unfold attrAt; rw [if_pos hin])
  have hin2 := inR_yes hin
  go_enter Tryz.func109, Tryz.ntmps109
  go_wp2_with fail
  generalize ((w.alloc (Obj.cells #[p0, p1] 32)).alloc (Obj.cells #[r0, r1, .slice A2 x.right.length k2, r3, r4, r5] 50)).alloc (Obj.cells #[.int .i64 y.pos, .string y.name] 81) = W0 at CG CR CO hz0 hw0 ⊢
  have hn0 : w.heap.size + 3 ≤ W0.heap.size := by omega
  have Hw : Hid (∀ W : World, Below (w.heap.size + 3) W0 W → Below w.heap.size w W) := hide fun W h => hw0.trans (h.mono (by omega))
  have hB0 : Below (w.heap.size + 3) W0 W0 := Below.refl _ _
  have a0 := cell_rule CG (n := w.heap.size + 3) (by omega) 0 rfl
  have a1 := cell_rule CG (n := w.heap.size + 3) (by omega) 1 rfl
  have b0 := cell_rule CR (n := w.heap.size + 3) (by omega) 0 rfl
  have b1 := cell_rule CR (n := w.heap.size + 3) (by omega) 1 rfl
  have b2 := cell_rule CR (n := w.heap.size + 3) (by omega) 2 rfl
  have b3 := cell_rule CR (n := w.heap.size + 3) (by omega) 3 rfl
  have b4 := cell_rule CR (n := w.heap.size + 3) (by omega) 4 rfl
  have b5 := cell_rule CR (n := w.heap.size + 3) (by omega) 5 rfl
  have c0 := cell_rule CO (n := w.heap.size + 3) (by omega) 0 rfl
  have c1 := cell_rule CO (n := w.heap.size + 3) (by omega) 1 rfl
  clear CG CR CO hz0 hw0
  have N0 : ∀ W : World, (W.alloc (.cells #[.string ⟨#[]⟩, .slice none 0 0] 42)).cell? ⟨W.heap.size, 0, none⟩ = some (.string ⟨#[]⟩) := fun W => cell_of_row _ _ 0 _ _ _ (heap_alloc_new W _)
  have N1 : ∀ W : World, (W.alloc (.cells #[.string ⟨#[]⟩, .slice none 0 0] 42)).cell? ⟨W.heap.size, 1, none⟩ = some (.slice none 0 0) := fun W => cell_of_row _ _ 1 _ _ _ (heap_alloc_new W _)
  have M0 : ∀ W : World, (W.alloc (.cells #[.string ⟨#[]⟩, .slice none 0 0] 42)).frozen? ⟨W.heap.size, 0, none⟩ = false := fun W => frozen_of_row _ _ 0 _ _ (heap_alloc_new W _)
  have M1 : ∀ W : World, (W.alloc (.cells #[.string ⟨#[]⟩, .slice none 0 0] 42)).frozen? ⟨W.heap.size, 1, none⟩ = false := fun W => frozen_of_row _ _ 1 _ _ (heap_alloc_new W _)
  go_wp2_with (go_at_call 11; refine (s_l1In _ _ _ _).mono ?_; rintro e w' ⟨rfl, rfl⟩)
  go_region_held3 (fun W => Below (w.heap.size + 3) W0 W)
    (first | assumption | exact Below.drew (by assumption) | exact below_alloc hn0 _ (by assumption) | exact Below.drew (below_alloc hn0 _ (by assumption)) | exact below_set2 (by assumption) (by omega))
    (first
      | (go_at_call 70; refine Calls.mono (s_SymbolAt D x _ Fr _ (Hr.out _ (Hw.out _ (by (repeat (first | assumption | exact Below.refl _ _ | apply Below.drew | refine below_alloc (by omega) _ ?_))))) y.pos hpos) ?_; rintro en w1 ⟨rfl, hb1⟩; have hB1 : Below (w.heap.size + 3) W0 w1 := below_step (by (repeat (first | assumption | exact Below.refl _ _ | apply Below.drew | refine below_alloc (by omega) _ ?_))) (by omega) hb1; have hz1 := hB1.size; (first | have zb1 := zbox hb1 | have zb1 := zboxd hb1 | skip); clear hb1)
      | (go_at_call 69; refine Calls.mono (s_FindSymbol D g _ Fg _ (Hg.out _ (Hw.out _ (by (repeat (first | assumption | exact Below.refl _ _ | apply Below.drew | refine below_alloc (by omega) _ ?_))))) (symAt x y.pos) Hbk.out) ?_; rintro en w2 ⟨us, F2, rfl, hR2, hf2, hb2⟩; have hF2 := hf2.from_; clear hf2;  generalize hX : (findS g.symbols (symAt x y.pos)).getD Sym.zero = X at hR2; have HX := hide hX; clear hX; obtain ⟨A, cap, hus, HR2⟩ := sym_form hR2; subst hus; have hB2 : Below (w.heap.size + 3) W0 w2 := below_step (by (repeat (first | assumption | exact Below.refl _ _ | apply Below.drew | refine below_alloc (by omega) _ ?_))) (by omega) hb2; have hz2 := hB2.size
         (first
           | (have zb2 := zbox hb2; have q0 := cell_at (i := 0) zb2.1 (by simp); have q1 := cell_at (i := 1) zb2.1 (by simp); simp only [Array.getD_eq_getD_getElem?, List.getElem?_toArray, List.getElem?_cons_succ, List.getElem?_cons_zero, Option.getD_some] at q0 q1; have z0 := frozen_of_row w2 _ 0 _ _ zb2.1; have z1 := frozen_of_row w2 _ 1 _ _ zb2.1; (try simp only [drew_heap] at q0); (try simp only [drew_heap] at q1); (try simp only [drew_heap] at z0); (try simp only [drew_heap] at z1))
           | (have zb2 := zcarry zb1 hb2; have q0 := cell_at (i := 0) zb2.1 (by simp); have q1 := cell_at (i := 1) zb2.1 (by simp); simp only [Array.getD_eq_getD_getElem?, List.getElem?_toArray, List.getElem?_cons_succ, List.getElem?_cons_zero, Option.getD_some] at q0 q1; have z0 := frozen_of_row w2 _ 0 _ _ zb2.1; have z1 := frozen_of_row w2 _ 1 _ _ zb2.1; (try simp only [drew_heap] at q0); (try simp only [drew_heap] at q1); (try simp only [drew_heap] at z0); (try simp only [drew_heap] at z1))
           | skip)
         clear hb2))
  all_goals
    first
    | (have C : CellsAt _ w1.heap.size 0 _ := cells_set2 zb2.1 (.string X.name) (.slice A X.attrs.length cap)
       have hWF : ∀ k ∈ F2, ((w2.setCell ⟨w1.heap.size, 0, none⟩ (.string X.name)).setCell ⟨w1.heap.size, 1, none⟩ (.slice A X.attrs.length cap)).heap[k]? = w2.heap[k]? := fun k hk => far_set2 _ _ _ _ _ (by have := hF2 k hk; simp at this; omega)
       have hsz : w2.heap.size ≤ ((w2.setCell ⟨w1.heap.size, 0, none⟩ (.string X.name)).setCell ⟨w1.heap.size, 1, none⟩ (.slice A X.attrs.length cap)).heap.size := by simp
       generalize ((w2.setCell ⟨w1.heap.size, 0, none⟩ (.string X.name)).setCell ⟨w1.heap.size, 1, none⟩ (.slice A X.attrs.length cap)) = WF at *
       generalize w1.heap.size = kb at C ⊢)
    | (have C : CellsAt _ W0.heap.size 0 _ := cells_set2 zb2.1 (.string X.name) (.slice A X.attrs.length cap)
       have hWF : ∀ k ∈ F2, ((w2.setCell ⟨W0.heap.size, 0, none⟩ (.string X.name)).setCell ⟨W0.heap.size, 1, none⟩ (.slice A X.attrs.length cap)).heap[k]? = w2.heap[k]? := fun k hk => far_set2 _ _ _ _ _ (by have := hF2 k hk; have := zb1.2; omega)
       have hsz : w2.heap.size ≤ ((w2.setCell ⟨W0.heap.size, 0, none⟩ (.string X.name)).setCell ⟨W0.heap.size, 1, none⟩ (.slice A X.attrs.length cap)).heap.size := by simp
       generalize ((w2.setCell ⟨W0.heap.size, 0, none⟩ (.string X.name)).setCell ⟨W0.heap.size, 1, none⟩ (.slice A X.attrs.length cap)) = WF at *
       generalize W0.heap.size = kb at C ⊢)
    | (have C := CellsAt.new w2 [.string X.name, .slice A X.attrs.length cap] 42
       have hB : Below w2.heap.size w2 (w2.alloc (Obj.cells #[.string X.name, .slice A X.attrs.length cap] 42)) := (Below.refl w2.heap.size w2).alloc (Nat.le_refl _) _
       have hWF : ∀ k ∈ F2, (w2.alloc (Obj.cells #[.string X.name, .slice A X.attrs.length cap] 42)).heap[k]? = w2.heap[k]? := fun k hk => hB.block k ((SymR.good D).lt HR2.out.1 k hk)
       have hsz := hB.size
       clear hB
       generalize w2.alloc (Obj.cells #[.string X.name, .slice A X.attrs.length cap] 42) = WF at *
       generalize w2.heap.size = kb at C ⊢)
  all_goals
    have hF : Below (w.heap.size + 3) W0 WF := by assumption
    have s0 := C 0 _ rfl
    have s1 := C 1 _ rfl
    simp only [Nat.zero_add, Nat.add_zero] at s0 s1
    have e1 := c1 WF hF
    have HRx : Hid (SymR D WF X [.string X.name, .slice A X.attrs.length cap] F2) := hide ((SymR.good D).frame HR2.out.1 hWF hsz)
    have HF := hide hF
    have HF2 := hide hF2
    have hzF := hF.size
    clear hF2 C hWF hsz HR2 c1 a0 a1 b0 b1 b2 b3 b4 b5
    by_cases hp : y.pos = 0
  all_goals
    cases hA : findA X.attrs y.name with
    | none =>
      have Hm : Hid (mayU g x y = false) := hide (by unfold mayU; rw [Hat.out, HX.out, hA])
      have HA := hide hA
      clear hA
      go_wp2_with (first
        | (go_at_call 136; refine Calls.mono (s_FindAttribute D X _ F2 _ HRx.out y.name) ?_; rw [HA.out]; rintro en w3 ⟨us, F3, rfl, hR3, _, hb3⟩; obtain ⟨u0, u1, u2, u3, rfl⟩ := list4 ((AtrR.good D).len hR3); have H13 := hide (AtrR.one hR3); have HZ := hide (heap_alloc_new w3 (.cells #[.string ⟨#[]⟩, .int .i64 0, .int .i64 0, .bool false] 44)); have hB3 : Below (w.heap.size + 3) W0 w3 := below_step HF.out (by omega) hb3; have hz3 := hB3.size; have hBx := below_alloc hn0 (.cells #[.string ⟨#[]⟩, .int .i64 0, .int .i64 0, .bool false] 44) hB3;  clear hR3 hb3)
        | (refine wpList_store_at 44 (.tmp 9) (.tmp 32) rfl Hia.out rfl rfl rfl rfl H13.out HZ.out (by decide) ?_; intro W4 hP; have hB4 : Below (w.heap.size + 3) W0 W4 := hBx.trans (hP.below (by omega)); have x2 := hP.cellsAt 2 _ rfl; simp only [Nat.zero_add] at x2; clear hP))
      go_ret
      exact ⟨by rw [Hm.out]; rfl, Hw.out _ (by assumption)⟩
    | some A' =>
      have Hm : Hid (mayU g x y = (A'.mode == if y.pos = 0 then 1 else 2)) := hide (by unfold mayU; rw [Hat.out, HX.out, hA])
      have HA := hide hA
      clear hA
      go_wp2_with (first
        | (go_at_call 136; refine Calls.mono (s_FindAttribute D X _ F2 _ HRx.out y.name) ?_; rw [HA.out]; rintro en w3 ⟨us, F3, rfl, hR3, _, hb3⟩; obtain ⟨u0, u1, u2, u3, rfl⟩ := list4 ((AtrR.good D).len hR3); have H13 := hide (AtrR.one hR3); have HZ := hide (heap_alloc_new w3 (.cells #[.string ⟨#[]⟩, .int .i64 0, .int .i64 0, .bool false] 44)); obtain ⟨_, _, _, _, hu2, _⟩ := hR3; obtain rfl := Option.some.inj hu2; have hB3 : Below (w.heap.size + 3) W0 w3 := below_step HF.out (by omega) hb3; have hz3 := hB3.size; have hBx := below_alloc hn0 (.cells #[.string ⟨#[]⟩, .int .i64 0, .int .i64 0, .bool false] 44) hB3;  clear hb3)
        | (refine wpList_store_at 44 (.tmp 9) (.tmp 32) rfl Hia.out rfl rfl rfl rfl H13.out HZ.out (by decide) ?_; intro W4 hP; have hB4 : Below (w.heap.size + 3) W0 W4 := hBx.trans (hP.below (by omega)); have x2 := hP.cellsAt 2 _ rfl; simp only [Nat.zero_add] at x2; clear hP))
      go_ret
      exact ⟨by rw [Hm.out]; simp [hp], Hw.out _ (by assumption)⟩
end Go.Proofs.YthlhhnnlbpecnaaGreat

/- One more element appended to an owned row, with what it leaves as it was. Plain. -/
namespace Go.Proofs.YthlhhnnlbpecnaaGreat
set_option linter.unusedSimpArgs false
set_option linter.unusedVariables false
set_option maxRecDepth 100000
open Go.RowKit
theorem app_ownS2 {α : Type} {P : Program} {ops : Array Oper} {rest : List Oper} {o : Oper} {a : Act} {Q : Exit → Act → World → Prop} (hgd : o.guard = none) (s x : Operand) (t e : TypeId)
    (ho : o.op = .call { callee := .builtin .append, args := #[s, x], argTypes := #[t, t] }) (ht : P.underlying t = some (.slice e)) {z : Value} {size bytes : Nat}
    (hinfo : (P.info? e).map (fun i => (i.zero, i.size, i.bytes)) = some (some z, size, bytes)) (hzs : z.cells.size = size) (hsz : 0 < size) {R : CR α} (hR : Good size R) (wr W : World) (base : Nat) (v : Value) (xs : List α) (F : List Nat)
    (hown : OwnS size R base e wr xs v F) (hs : a.eval s = v) (hbW : Below wr.heap.size wr W) (y : α) (ys : List Value) (G : List Nat) (hy : R W y ys G) (hG : Fresh wr.heap.size W G) (hy1 : ∀ u ∈ ys, u.oneCell' = true)
    (hx : a.eval x = .slice (some ⟨W.heap.size, 0, none⟩) 1 1)
    (hn : xs.length + 1 ≤ 1099511627776) (hby : (xs.length + 1) * bytes ≤ 140737488355328) (hbase : base ≤ wr.heap.size)
    (h : ∀ v' w', OwnS size R base e w' (xs ++ [y]) v' (F ++ G) → Below base wr w' → (∀ k, k < W.heap.size → v.ownBlock ≠ some k → w'.heap[k]? = W.heap[k]?) → W.heap.size ≤ w'.heap.size → (∀ k, v'.ownBlock = some k → v.ownBlock = some k ∨ W.heap.size ≤ k) → wpList P ops Q rest (a.put o.dst v') w') : wpList P ops Q (o :: rest) a (W.alloc (.cells ys.toArray e)) := by
  obtain ⟨i0, hi, hz0, hz1, hz2⟩ := info_parts hinfo
  have hbA : Below wr.heap.size wr (W.alloc (.cells ys.toArray e)) := hbW.alloc hbW.size _
  have hlen := hR.len hy
  have hFlt := hown.fresh.lt
  have hblk := hown.blk
  obtain ⟨⟨cl, hrow, hel⟩, hf, hoff⟩ := hown
  have hcells : ∀ j u, ys[j]? = some u → (W.alloc (.cells ys.toArray e)).cell? ((⟨W.heap.size, 0, none⟩ : Addr).add j) = some u := fun j u hu => by
    have := CellsAt.new W ys e j u hu
    rw [Nat.zero_add] at this
    unfold Addr.add
    split
    · rename_i h0
      subst h0
      exact this
    · rw [show (0 : Nat) + j = j by omega]
      exact this
  have hsz1 : wr.heap.size ≤ (W.alloc (.cells ys.toArray e)).heap.size := hbA.size
  refine wpList_plain hgd fun K hK => ?_
  obtain ⟨v', w', hr, h2, h3, h4⟩ := run_append_where (P := P) (W.alloc (.cells ys.toArray e)) base t o.type e i0 z size bytes ht hi hz0 hz1 hz2 hzs hsz v xs.length cl (own_below hrow hbA) ⟨W.heap.size, 0, none⟩ 1 1 ys (by omega) hcells hy1 (by unfold maxLen; omega) hby (by omega)
  have hblkA : ∀ k, k < W.heap.size → v.ownBlock ≠ some k → w'.heap[k]? = W.heap[k]? := fun k hk hne => by
    rw [h3.block k (by rw [World.size_alloc]; omega) (fun he => hne he.symm), Below.heap_alloc W _ k hk]
  have hWw : wr.heap.size ≤ W.heap.size := hbW.size
  have hF' : ∀ k ∈ F, w'.heap[k]? = wr.heap[k]? := fun k hk => by
    have hk1 := hFlt k hk
    rw [hblkA k (by omega) (hoff k hk), hbW.block k hk1]
  have hG' : ∀ k ∈ G, w'.heap[k]? = W.heap[k]? := fun k hk => hblkA k (hG.lt k hk) fun he => by
    have h5 := (hblk k he).2
    have h6 := hG.from_ k hk
    omega
  have hzw : W.heap.size ≤ w'.heap.size := Nat.le_trans (by simp) h3.size
  have hres : OwnS size R base e w' (xs ++ [y]) v' (F ++ G) := by
    refine ⟨⟨cl ++ ys, by rw [List.length_append]; exact h2, ElL.snoc (hR.frame hy hG' hzw) (hel.frame hR (by omega) hF')⟩, (hf.keep hF').append (hG.keep hG') hFlt hbase, fun k hk he => ?_⟩
    rcases h4 k he with h5 | h5
    · rcases List.mem_append.1 hk with hk | hk
      · exact hoff k hk h5
      · have := (hblk k h5).2; have := hG.from_ k hk; omega
    · rcases List.mem_append.1 hk with hk | hk
      · have := hFlt k hk; simp at h5; omega
      · have := hG.lt k hk; simp at h5; omega
  have hbl : Below base wr w' := (hbA.mono hbase).grown h3 (by omega) fun k hk => (hblk k hk).1
  have hfin := hK _ _ (h v' w' hres hbl hblkA hzw fun k hk => by
    rcases h4 k hk with h5 | h5
    · exact .inl h5
    · exact .inr (by simp at h5; omega))
  revert hr
  intro hr
  unfold Oper.wp execOp
  simp only [ho, resolve, invoke, builtin, Sem.run_bind, Sem.run_pure, Result.andThen_ok, List.map_toArray, List.map_cons, List.map_nil, hs, hx, hr]
  exact hfin
end Go.Proofs.YthlhhnnlbpecnaaGreat

/- The attributes that a rule must define: plain laws. -/
namespace Go.Proofs.YthlhhnnlbpecnaaGreat
set_option linter.unusedSimpArgs false
set_option linter.unusedVariables false
set_option maxRecDepth 100000
open Go.RowKit Go.WideShapes
set_option linter.unusedVariables false

theorem infoOcc : (Tryz.prog.info? 81).map (fun i => (i.zero, i.size, i.bytes)) = some (some (.agg #[.int .i64 0, .string ByteArray.empty]), 2, 24) := by kernel_rfl
def reqT (g : Grm) (x : Rul) (n : Nat) : List Occ := (List.range n).flatMap (dueAt g x)
def dueP (l : List Atr) (m : Int) (n j : Nat) : List Occ := ((l.take j).filter fun a => a.mode == m).map fun a => ⟨n, a.name⟩
theorem dueMode_zero {n : Nat} (h : n = 0) : dueMode n = 2 := by unfold dueMode; rw [if_pos h]
theorem dueMode_pos {n : Nat} (h : ¬ n = 0) : dueMode n = 1 := by unfold dueMode; rw [if_neg h]
theorem reqT_zero (g : Grm) (x : Rul) : reqT g x 0 = [] := rfl
theorem reqT_succ (g : Grm) (x : Rul) (n : Nat) : reqT g x (n + 1) = reqT g x n ++ dueAt g x n := by
  unfold reqT
  rw [List.range_succ, List.flatMap_append]
  simp
theorem dueP_zero (l : List Atr) (m : Int) (n : Nat) : dueP l m n 0 = [] := rfl
theorem dueP_keep {l : List Atr} {m : Int} {n j : Nat} {a : Atr} (ha : l[j]? = some a) (h : a.mode = m) : dueP l m n (j + 1) = dueP l m n j ++ [⟨n, a.name⟩] := by
  unfold dueP
  rw [take_snoc ha, List.filter_append]
  simp [List.filter, h]
theorem dueP_drop {l : List Atr} {m : Int} {n j : Nat} {a : Atr} (ha : l[j]? = some a) (h : ¬ a.mode = m) : dueP l m n (j + 1) = dueP l m n j := by
  unfold dueP
  rw [take_snoc ha, List.filter_append]
  have h2 : (a.mode == m) = false := by simpa using h
  simp [List.filter, h2]
theorem dueP_all {g : Grm} {x : Rul} {n : Nat} {X : Sym} {m : Int} (hX : (findS g.symbols (symAt x n)).getD Sym.zero = X) (hm : dueMode n = m) : dueP X.attrs m n X.attrs.length = dueAt g x n := by
  unfold dueP dueAt
  rw [List.take_length, hX, hm]
theorem dueP_len (l : List Atr) (m : Int) (n j : Nat) : (dueP l m n j).length ≤ l.length := by
  unfold dueP
  rw [List.length_map]
  exact Nat.le_trans (List.length_filter_le _ _) (by rw [List.length_take]; exact Nat.min_le_right _ _)
theorem attrs_le {D : Nat} (g : Grm) (s : ByteArray) : (((findS g.symbols s).getD Sym.zero).attrs.length : Int) ≤ bulkGrm D g := by
  have hr := sumBy_nonneg (bulkRul_nonneg D) g.rules
  cases hf : findS g.symbols s with
  | none =>
    have := bulkGrm_nonneg D g
    simpa [Sym.zero] using this
  | some y =>
    have h1 := sumBy_mem (bulkSym_nonneg D) (List.mem_of_find?_eq_some hf)
    have h2 := sumBy_nonneg (bulkAtr_nonneg D) y.attrs
    have h3 : bulkSym D y = (y.name.size : Int) + (y.attrs.length + sumBy (bulkAtr D) y.attrs) := rfl
    have h4 : bulkGrm D g = (g.symbols.length + sumBy (bulkSym D) g.symbols) + (g.rules.length + sumBy (bulkRul D) g.rules) := rfl
    show (y.attrs.length : Int) ≤ _
    omega
theorem dueAt_le (D : Nat) (g : Grm) (x : Rul) (n : Nat) : (dueAt g x n).length ≤ (bulkGrm D g).toNat := by
  have h := attrs_le (D := D) g (symAt x n)
  have := List.length_filter_le (fun a : Atr => a.mode == dueMode n) ((findS g.symbols (symAt x n)).getD Sym.zero).attrs
  unfold dueAt
  rw [List.length_map]
  omega
theorem reqT_le (D : Nat) (g : Grm) (x : Rul) : ∀ n, (reqT g x n).length ≤ n * (bulkGrm D g).toNat
  | 0 => by simp [reqT_zero]
  | n + 1 => by
    have h1 := reqT_le D g x n
    have h2 := dueAt_le D g x n
    rw [reqT_succ, List.length_append, Nat.succ_mul]
    omega
theorem mul_small {a b : Nat} (h : a + b ≤ 1048576) : (a + 1) * b ≤ 412317384704 := by
  by_cases h1 : a + 1 ≤ 262144
  · exact Nat.le_trans (Nat.mul_le_mul h1 (show b ≤ 1048576 by omega)) (by decide)
  · by_cases h2 : a + 1 ≤ 524288
    · exact Nat.le_trans (Nat.mul_le_mul h2 (show b ≤ 786433 by omega)) (by decide)
    · by_cases h3 : a + 1 ≤ 786433
      · exact Nat.le_trans (Nat.mul_le_mul h3 (show b ≤ 524288 by omega)) (by decide)
      · exact Nat.le_trans (Nat.mul_le_mul (show a + 1 ≤ 1048577 by omega) (show b ≤ 262144 by omega)) (by decide)
/-- What the list of the required attributes asks: the grammar and the rule small, and the list not too long. -/
structure ReqJ (D : Nat) (g : Grm) (x : Rul) : Prop where
  grm : bulkGrm D g ≤ 1048576
  rul : bulkRul D x ≤ 1048576
  mul : (x.right.length + 1) * (bulkGrm D g).toNat ≤ 412317384704
theorem ReqJ.of_short {D : Nat} {g : Grm} {x : Rul} (hg : bulkGrm D g ≤ 1048576) (hx : bulkRul D x ≤ 1048576) (h : x.right.length ≤ 16) : ReqJ D g x := ⟨hg, hx, Nat.le_trans (Nat.mul_le_mul (show x.right.length + 1 ≤ 17 by omega) (show (bulkGrm D g).toNat ≤ 1048576 by omega)) (by decide)⟩
theorem req_room {D : Nat} {g : Grm} {x : Rul} (hj : ReqJ D g x) {n : Nat} (hn : n ≤ x.right.length) {X : Sym} (hX : (findS g.symbols (symAt x n)).getD Sym.zero = X) (m : Int) (j : Nat) : (reqT g x n ++ dueP X.attrs m n j).length ≤ 412317384704 := by
  have h1 := reqT_le D g x n
  have h2 := dueP_len X.attrs m n j
  have h3 := attrs_le (D := D) g (symAt x n)
  have h4 := hj.mul
  have h5 : (n + 1) * (bulkGrm D g).toNat ≤ (x.right.length + 1) * (bulkGrm D g).toNat := Nat.mul_le_mul_right _ (by omega)
  rw [hX] at h3
  rw [Nat.succ_mul] at h5
  rw [List.length_append]
  omega
theorem reqO_len {D : Nat} {g : Grm} {x : Rul} (hj : ReqJ D g x) : (reqO g x).length ≤ 412317384704 := Nat.le_trans (reqT_le D g x (x.right.length + 1)) (hj.mul)
end Go.Proofs.YthlhhnnlbpecnaaGreat

/- The closures of EqualRule and the comparison of slices by them. -/
namespace Go.Proofs.YthlhhnnlbpecnaaGreat
set_option linter.unusedSimpArgs false
set_option linter.unusedVariables false
set_option maxRecDepth 100000
open Go.RowKit Go.WideShapes
set_option linter.unusedVariables false
def eqEqn (D : Nat) (a b : Eqn) : Bool := eqOcc a.at_ b.at_ && eqE D a.expr b.expr
def eqCon (D : Nat) (a b : Con) : Bool := ((a.symbol.toList == b.symbol.toList) && (a.name.toList == b.name.toList)) && eqE D a.target b.target && eqE D a.value b.value
end Go.Proofs.YthlhhnnlbpecnaaGreat

/- slices.EqualFunc over equations and contributions, with the closures of EqualRule. -/
namespace Go.Proofs.YthlhhnnlbpecnaaGreat
set_option linter.unusedSimpArgs false
set_option linter.unusedVariables false
set_option maxRecDepth 100000
open Go.RowKit Go.WideShapes
set_option linter.unusedVariables false
end Go.Proofs.YthlhhnnlbpecnaaGreat

/- Values: what the functions on numbers, types and operators return, in the program and in the reference. Conditions: an argument is an int64. -/
namespace Go.Proofs.YthlhhnnlbpecnaaGreat
set_option linter.unusedSimpArgs false
set_option linter.unusedVariables false
set_option maxRecDepth 100000
open Go.RowKit

def ot (op : Int) : Int × Int × Int :=
  if 1 ≤ op ∧ op ≤ 5 then (1, 1, 1) else if 6 ≤ op ∧ op ≤ 8 then (2, 2, 2) else if op = 9 ∨ op = 10 then (1, 1, 3) else if op = 11 then (2, 1, 3) else if op = 12 then (2, 1, 2) else (0, 0, 0)
def sat (n : Int) : Int := if 1000000 < n then 1000000 else if n < -1000000 then -1000000 else n
def co (v k : Int) : Int := if k = 1 then sat v else if k = 2 then bits .and .i64 v 4095 else if k = 3 then (if v = 0 then 0 else 1) else if k = 4 ∧ 0 ≤ v ∧ v ≤ 999 then v else 0
def ofT (v k : Int) : Bool := decide (1 ≤ k ∧ k ≤ 4 ∧ co v k = v)

theorem s_Saturate (n : Int) (w : World) : Calls Tryz.prog 177 #[.int .i64 n] w fun e w' => e = .returned (.int .i64 (sat n)) ∧ w = w' := by
  go_enter Tryz.func177, Tryz.ntmps177
  go_wp2
  all_goals go_ret
  all_goals refine ⟨ret_int ?_, rfl⟩
  all_goals (unfold sat; (repeat' split) <;> first | rfl | omega)
theorem i_Saturate (n : Int) (w : World) : Calls Tryz.prog 175 #[.int .i64 n] w fun e w' => e = .returned (.int .i64 (sat n)) ∧ w = w' := by
  go_enter Tryz.func175, Tryz.ntmps175
  go_wp2
  all_goals go_ret
  all_goals refine ⟨ret_int ?_, rfl⟩
  all_goals (unfold sat; (repeat' split) <;> first | rfl | omega)

theorem s_Coerce (v k : Int) (w : World) : Calls Tryz.prog 174 #[.int .i64 v, .int .i64 k] w fun e w' => e = .returned (.int .i64 (co v k)) ∧ w = w' := by
  go_enter Tryz.func174, Tryz.ntmps174
  go_wp2
  all_goals go_ret
  all_goals refine ⟨ret_int ?_, rfl⟩
  all_goals (try simp only [beq_iff_eq, beq_eq_false_iff_ne, ne_eq, bne_iff_ne, bne_eq_false_iff_eq] at *)
  all_goals (unfold co; (repeat' split) <;> first | rfl | omega | (unfold sat; (repeat' split) <;> omega))
theorem i_Coerce (v k : Int) (w : World) : Calls Tryz.prog 172 #[.int .i64 v, .int .i64 k] w fun e w' => e = .returned (.int .i64 (co v k)) ∧ w = w' := by
  go_enter Tryz.func172, Tryz.ntmps172
  go_wp2
  all_goals go_ret
  all_goals refine ⟨ret_int ?_, rfl⟩
  all_goals (try simp only [beq_iff_eq, beq_eq_false_iff_ne, ne_eq, bne_iff_ne, bne_eq_false_iff_eq] at *)
  all_goals (unfold co; (repeat' split) <;> first | rfl | omega | (unfold sat; (repeat' split) <;> omega))
theorem bits_4095 (v : Int) : bits .and .i64 v 4095 = v % 4096 := by
  show IntKind.i64.wrap ((BitVec.ofInt 64 v &&& BitVec.ofInt 64 4095).toNat : Int) = _
  rw [BitVec.toNat_and, BitVec.toNat_ofInt, BitVec.toNat_ofInt, IntKind.wrap_i64]
  rw [show ((4095 : Int) % ((2 : Nat) ^ 64 : Nat)).toNat = 2 ^ 12 - 1 from rfl, Nat.and_two_pow_sub_one_eq_mod]
  omega
theorem co_bd (v k : Int) : -1000000 ≤ co v k ∧ co v k ≤ 1000000 := by
  unfold co sat
  rw [bits_4095]
  (repeat' split) <;> omega
theorem s_IsOfType (v k : Int) (w : World) : Calls Tryz.prog 170 #[.int .i64 v, .int .i64 k] w fun e w' => e = .returned (.bool (ofT v k)) ∧ w = w' := by
  by_cases h1 : 1 ≤ k
  · by_cases h2 : k ≤ 4
    · go_enter Tryz.func170, Tryz.ntmps170
      go_wp2_with (first | (go_at_call 174; refine (s_Coerce _ _ _).mono ?_; rintro e w' ⟨rfl, rfl⟩) | go_in)
      go_ret
      exact ⟨ret_bool (by unfold ofT; rw [Bool.eq_iff_iff]; simp; omega), rfl⟩
    · go_enter Tryz.func170, Tryz.ntmps170
      go_wp2
      go_ret
      exact ⟨ret_bool (by unfold ofT; rw [Bool.eq_iff_iff]; simp; omega), rfl⟩
  · go_enter Tryz.func170, Tryz.ntmps170
    go_wp2
    go_ret
    exact ⟨ret_bool (by unfold ofT; rw [Bool.eq_iff_iff]; simp; omega), rfl⟩
theorem i_IsOfType (v k : Int) (w : World) : Calls Tryz.prog 161 #[.int .i64 v, .int .i64 k] w fun e w' => e = .returned (.bool (ofT v k)) ∧ w = w' := by
  by_cases h1 : 1 ≤ k
  · by_cases h2 : k ≤ 4
    · go_enter Tryz.func161, Tryz.ntmps161
      go_wp2_with (first | (go_at_call 172; refine (i_Coerce _ _ _).mono ?_; rintro e w' ⟨rfl, rfl⟩) | go_in)
      go_ret
      exact ⟨ret_bool (by unfold ofT; rw [Bool.eq_iff_iff]; simp; omega), rfl⟩
    · go_enter Tryz.func161, Tryz.ntmps161
      go_wp2
      go_ret
      exact ⟨ret_bool (by unfold ofT; rw [Bool.eq_iff_iff]; simp; omega), rfl⟩
  · go_enter Tryz.func161, Tryz.ntmps161
    go_wp2
    go_ret
    exact ⟨ret_bool (by unfold ofT; rw [Bool.eq_iff_iff]; simp; omega), rfl⟩
/-- An operator on values that have its types. -/
def apC (op x y : Int) : Int :=
  if op = 1 then sat (x + y) else if op = 2 then sat (x - y) else if op = 3 then sat (x * y) else if op = 4 then (if y < x then x else y) else if op = 5 then (if x < y then x else y)
  else if op = 6 then bits .or .i64 x y else if op = 7 then bits .and .i64 x y else if op = 8 then bits .andNot .i64 x y else if op = 9 then (if x < y then 1 else 0) else if op = 10 then (if x = y then 1 else 0)
  else if op = 11 then (if 0 ≤ y ∧ y ≤ 11 ∧ bits .and .i64 (x / 2 ^ y.toNat) 1 = 1 then 1 else 0) else if op = 12 then (if 0 ≤ y ∧ y ≤ 11 then bits .or .i64 x (2 ^ y.toNat) else x) else 0
def ap (op a b : Int) : Int := apC op (co a (ot op).1) (co b (ot op).2.1)
theorem mul_bd {x y : Int} (hx : -1000000 ≤ x ∧ x ≤ 1000000) (hy : -1000000 ≤ y ∧ y ≤ 1000000) : -1000000000000 ≤ x * y ∧ x * y ≤ 1000000000000 := by
  have h : (x * y).natAbs ≤ 1000000 * 1000000 := by
    rw [Int.natAbs_mul]
    exact Nat.mul_le_mul (by omega) (by omega)
  omega
theorem pow_bd {y : Int} (h0 : 0 ≤ y) (h1 : y ≤ 11) : 1 ≤ (2 : Int) ^ y.toNat ∧ (2 : Int) ^ y.toNat ≤ 2048 := by
  obtain ⟨n, rfl⟩ := Int.eq_ofNat_of_zero_le h0
  have hn : n ≤ 11 := by omega
  rw [Int.toNat_natCast]
  have e : ((2 : Int) ^ n) = ((2 ^ n : Nat) : Int) := by simp
  rw [e]
  have h2 : 2 ^ n ≤ 2 ^ 11 := Nat.pow_le_pow_right (by omega) hn
  have h3 : 0 < 2 ^ n := Nat.two_pow_pos n
  omega
end Go.Proofs.YthlhhnnlbpecnaaGreat
