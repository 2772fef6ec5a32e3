/- Several texts of one proof in one file: AttributeUses, the reference's side. AttributeUses, the reference's side. Does an expression use what it may not: the reference. Conditions: each theorem names its own. -/
import Derived.Test.YthlhhnnlbpecnaaGreatGcsbc
import Derived.Test.YthlhhnnlbpecnaaGreatGcsaz
import Derived.Test.YthlhhnnlbpecnaaGreatGcsal

/- AttributeUses, the reference's side. Conditions: the expression has at most the size 2^20. -/
namespace Go.Proofs.YthlhhnnlbpecnaaGreat
set_option linter.unusedSimpArgs false
set_option linter.unusedVariables false
set_option maxRecDepth 100000
open Go.RowKit Go.WideShapes
set_option linter.unusedVariables false

theorem insO_len : ∀ (l : List Occ) (x : Occ), (insO l x).length ≤ l.length + 1
  | [], x => by simp [insO]
  | y :: r, x => by
    have h := insO_len r x
    unfold insO
    split
    · simp only [List.length_cons]; omega
    · split <;> simp
theorem foldO_len : ∀ (us l : List Occ), (us.foldl insO l).length ≤ l.length + us.length
  | [], l => by simp
  | u :: r, l => by
    have h1 := foldO_len r (insO l u)
    have h2 := insO_len l u
    simp only [List.foldl_cons, List.length_cons]
    omega
theorem putsE_succ (d : Nat) (e : Ex) (l : List Occ) : putsE (d + 1) e l = e.args.foldl (fun a x => putsE d x a) ((useH e.h).foldl insO l) := by
  unfold putsE
  simp only [usesE, List.foldl_append, List.foldl_flatten, List.foldl_map]
theorem fold_snoc {d : Nat} {l : List Ex} {j : Nat} {x : Ex} (hx : l[j]? = some x) (a : List Occ) : (l.take (j + 1)).foldl (fun a x => putsE d x a) a = putsE d x ((l.take j).foldl (fun a x => putsE d x a) a) := by
  rw [take_snoc hx, List.foldl_append]
  rfl
theorem foldE_len {d : Nat} : ∀ (l : List Ex) (a : List Occ), (l.foldl (fun a x => putsE d x a) a).length ≤ a.length + ((l.map (usesE d)).flatten).length
  | [], a => by simp
  | x :: r, a => by
    have h1 := foldE_len (d := d) r (putsE d x a)
    have h2 := foldO_len (usesE d x) a
    simp only [List.foldl_cons, List.map_cons, List.flatten_cons, List.length_append]
    unfold putsE at h1 ⊢
    omega
def UsS (d : Nat) : Prop := ∀ (e : Ex) (cs : List Value) (F : List Nat) (w : World) (B g cap : Nat) (xs : List Occ), ExR d w e cs F → LR B w xs g cap → B ≤ w.heap.size → xs.length + (usesE d e).length ≤ 2097152 →
  Calls Tryz.prog 135 #[.agg cs.toArray, .slice (some ⟨g, 0, none⟩) xs.length cap] w fun en w' => ∃ g' cap', en = .returned (.slice (some ⟨g', 0, none⟩) (putsE d e xs).length cap') ∧ LR B w' (putsE d e xs) g' cap' ∧ Below w.heap.size w w'
set_option maxRecDepth 100000 in
set_option maxHeartbeats 4000000 in
theorem t_Uses_step {d : Nat} (hE : UsS d) : UsS (d + 1) := fun e cs F w B g cap xs h hL hB hn => by
  obtain ⟨A, capA, rfl, hok, hl, hm, hs⟩ := ex_form h
  have hps := putsE_succ d e xs
  have hnE : (usesE (d + 1) e).length = (useH e.h).length + ((e.args.map (usesE d)).flatten).length := by simp only [usesE, List.length_append]
  rw [hnE] at hn
  rw [hps]
  clear hps hnE
  obtain ⟨⟨k, n, p, t, s, m⟩, l⟩ := e
  simp only [Ex.args, Ex.h] at hs hl hok hn ⊢
  have hl' : l.length ≤ 9223372036854775807 := by unfold maxLen at hm; omega
  have Hs := hide hs
  have HF := hide (hs.lt (ExR.good d))
  have HE := hide hE
  have HL := hide hL
  have Hok := hide hok
  have Hi : Hid ((Tryz.prog.info? 86).map (·.size) = some 7) := hide (by kernel_rfl)
  have hw0 : Below w.heap.size w (w.alloc (.cells #[.int .i64 k, .int .i64 n, .int .i64 p, .int .i64 t, .string s, .string m, .slice A l.length capA] 86)) := (Below.refl _ _).alloc (Nat.le_refl _) _
  have hC := CellsAt.new w [.int .i64 k, .int .i64 n, .int .i64 p, .int .i64 t, .string s, .string m, .slice A l.length capA] 86
  have hz := World.size_alloc w (.cells #[.int .i64 k, .int .i64 n, .int .i64 p, .int .i64 t, .string s, .string m, .slice A l.length capA] 86)
  show Calls _ _ #[.agg #[.int .i64 k, .int .i64 n, .int .i64 p, .int .i64 t, .string s, .string m, .slice A l.length capA], .slice (some ⟨g, 0, none⟩) xs.length cap] w _
  clear h hL hs hE hok
  by_cases hk : k = 3
  · subst hk
    have hu : useH ⟨3, n, p, t, s, m⟩ = [⟨p, m⟩] := rfl
    rw [hu] at hn ⊢
    simp only [List.foldl_cons, List.foldl_nil, List.length_singleton] at hn ⊢
    obtain ⟨us, hus⟩ : ∃ us, us = insO xs ⟨p, m⟩ := ⟨_, rfl⟩
    rw [← hus]
    have Hus := hide hus
    clear hus hu
    go_enter Tryz.func135, Tryz.ntmps135
    go_wp2_with fail
    generalize w.alloc (.cells #[.int .i64 3, .int .i64 n, .int .i64 p, .int .i64 t, .string s, .string m, .slice A l.length capA] 86) = W0 at hw0 hC hz ⊢
    have hn0 : w.heap.size + 1 ≤ W0.heap.size := by omega
    have Hw : Hid (∀ W : World, Below (w.heap.size + 1) W0 W → Below w.heap.size w W) := hide fun W h => hw0.trans (h.mono (by omega))
    have e6 := cell_rule hC (n := w.heap.size + 1) (by omega) 6 rfl
    have hL0 := HL.out.below hw0
    clear hw0 hC hz
    have hp := t_Put B g cap xs ⟨p, m⟩ W0 hL0 ⟨Hok.out.pos, Hok.out.name⟩ (by omega) (by omega)
    have hi := insO_len xs ⟨p, m⟩
    rw [← Hus.out] at hp hi
    refine Calls.mono hp ?_
    rintro en w1 ⟨g1, cap1, rfl, hL1, hb1⟩
    have hW1 : Below (w.heap.size + 1) W0 w1 := hb1.mono hn0
    have hnu : us.length + ((l.map (usesE d)).flatten).length ≤ 2097152 := by omega
    have HL1 := hide hL1
    have HW1 := hide hW1
    clear hb1 hL0 hL1 hi hn hp
    go_wp2_with fail
    go_loopw [1, 5] (fun q i wr => ∃ (j g2 cap2 : Nat), j ≤ l.length ∧ q = .slice (some ⟨g2, 0, none⟩) ((l.take j).foldl (fun a x => putsE d x a) us).length cap2 ∧ i = .int .i64 j ∧ Hid (LR B wr ((l.take j).foldl (fun a x => putsE d x a) us) g2 cap2) ∧ Hid (Below (w.heap.size + 1) W0 wr)) (fun _ i _ => l.length - (intOf i).toNat)
    case atStart => exact ⟨0, _, _, by omega, rfl, rfl, HL1, HW1⟩
    case round =>
      obtain ⟨j, g2, cap2, hj, rfl, rfl, HLj, Hb⟩ := hrel
      have hBr := Hb.out
      by_cases hlt : j < l.length
      · have hX : l[j]? = some l[j] := List.getElem?_eq_getElem hlt
        generalize l[j] = X at hX
        have HX := hide hX
        obtain ⟨b, off, es, Fk, hA, _, hbF, hFk, hcl, hcat, hR⟩ := SlR.get (ExR.good d) (Hs.out.below (ExR.good d) (Hw.out wr hBr) HF.out) hX
        subst hA
        obtain ⟨c0, c1, c2, c3, c4, c5, c6, rfl⟩ := list7 hcl
        have HR := hide hR
        have Hc := hide hcat
        have Hn : Hid (([c0, c1, c2, c3, c4, c5, c6] : List Value).length = 7) := hide rfl
        have hj0 : (0 : Int) ≤ (j : Int) := by omega
        have hj1 : (j : Int) < (l.length : Int) := by omega
        have HBr : Hid (B ≤ wr.heap.size) := hide (Nat.le_trans hB (Hw.out wr hBr).size)
        have Hnx : Hid (((l.take j).foldl (fun a x => putsE d x a) us).length + (usesE d X).length ≤ 2097152) := hide (by
          have h1 := foldE_len (d := d) (l.take j) us
          have h2 := flat_le (d := d) hX
          omega)
        clear hX hcat hFk hbF hcl hR
        generalize hcur : (l.take j).foldl (fun a x => putsE d x a) us = cur at HLj Hnx ⊢
        have Hcur := hide hcur
        clear hcur
        go_wp2_with (refine wpList_load_at 86 (.tmp 26) rfl Tryz.underlying86 rfl Hi.out rfl rfl Hn.out Hc.out ?_)
        refine Calls.mono (HE.out X _ Fk wr B g2 cap2 cur HR.out HLj.out HBr.out Hnx.out) ?_
        rintro en w2 ⟨g3, cap3, rfl, hL3, hb3⟩
        have HL3 : Hid (LR B w2 ((l.take (j + 1)).foldl (fun a x => putsE d x a) us) g3 cap3) := hide (by
          rw [fold_snoc HX.out, Hcur.out]
          exact hL3)
        have Hb3 := hide (below_step hBr hn0 hb3)
        have Hlen : Hid ((putsE d X cur).length = ((l.take (j + 1)).foldl (fun a x => putsE d x a) us).length) := hide (by rw [fold_snoc HX.out, Hcur.out])
        clear hL3 hb3
        rw [Hlen.out]
        go_wp2_with fail
        go_roundw
        case rel => exact ⟨j + 1, g3, cap3, by omega, rfl, by go_num, HL3, Hb3⟩
        case measure => simp [intOf]; omega
      · have hjl : j = l.length := by omega
        rw [hjl, List.take_length] at HLj ⊢
        go_wp2_with fail
        go_ret
        exact ⟨g2, cap2, rfl, HLj.out, Hw.out wr hBr⟩
  · have hu : useH ⟨k, n, p, t, s, m⟩ = [] := if_neg hk
    rw [hu] at hn ⊢
    simp only [List.foldl_nil, List.length_nil] at hn ⊢
    have hk3 : (k == 3) = false := beq_eq_false_iff_ne.2 hk
    go_enter Tryz.func135, Tryz.ntmps135
    go_wp2_with fail
    generalize w.alloc (.cells #[.int .i64 k, .int .i64 n, .int .i64 p, .int .i64 t, .string s, .string m, .slice A l.length capA] 86) = W0 at hw0 hC hz ⊢
    have hn0 : w.heap.size + 1 ≤ W0.heap.size := by omega
    have Hw : Hid (∀ W : World, Below (w.heap.size + 1) W0 W → Below w.heap.size w W) := hide fun W h => hw0.trans (h.mono (by omega))
    have e6 := cell_rule hC (n := w.heap.size + 1) (by omega) 6 rfl
    have HL1 := hide (HL.out.below hw0)
    have HW1 : Hid (Below (w.heap.size + 1) W0 W0) := hide (Below.refl _ _)
    obtain ⟨w1, hw1⟩ : ∃ W, W = W0 := ⟨_, rfl⟩
    have hnu : xs.length + ((l.map (usesE d)).flatten).length ≤ 2097152 := by omega
    clear hw0 hC hz hn hw1
    go_wp2_with fail
    go_loopw [1, 5] (fun q i wr => ∃ (j g2 cap2 : Nat), j ≤ l.length ∧ q = .slice (some ⟨g2, 0, none⟩) ((l.take j).foldl (fun a x => putsE d x a) xs).length cap2 ∧ i = .int .i64 j ∧ Hid (LR B wr ((l.take j).foldl (fun a x => putsE d x a) xs) g2 cap2) ∧ Hid (Below (w.heap.size + 1) W0 wr)) (fun _ i _ => l.length - (intOf i).toNat)
    case atStart => exact ⟨0, _, _, by omega, rfl, rfl, HL1, HW1⟩
    case round =>
      obtain ⟨j, g2, cap2, hj, rfl, rfl, HLj, Hb⟩ := hrel
      have hBr := Hb.out
      by_cases hlt : j < l.length
      · have hX : l[j]? = some l[j] := List.getElem?_eq_getElem hlt
        generalize l[j] = X at hX
        have HX := hide hX
        obtain ⟨b, off, es, Fk, hA, _, hbF, hFk, hcl, hcat, hR⟩ := SlR.get (ExR.good d) (Hs.out.below (ExR.good d) (Hw.out wr hBr) HF.out) hX
        subst hA
        obtain ⟨c0, c1, c2, c3, c4, c5, c6, rfl⟩ := list7 hcl
        have HR := hide hR
        have Hc := hide hcat
        have Hn : Hid (([c0, c1, c2, c3, c4, c5, c6] : List Value).length = 7) := hide rfl
        have hj0 : (0 : Int) ≤ (j : Int) := by omega
        have hj1 : (j : Int) < (l.length : Int) := by omega
        have HBr : Hid (B ≤ wr.heap.size) := hide (Nat.le_trans hB (Hw.out wr hBr).size)
        have Hnx : Hid (((l.take j).foldl (fun a x => putsE d x a) xs).length + (usesE d X).length ≤ 2097152) := hide (by
          have h1 := foldE_len (d := d) (l.take j) xs
          have h2 := flat_le (d := d) hX
          omega)
        clear hX hcat hFk hbF hcl hR
        generalize hcur : (l.take j).foldl (fun a x => putsE d x a) xs = cur at HLj Hnx ⊢
        have Hcur := hide hcur
        clear hcur
        go_wp2_with (refine wpList_load_at 86 (.tmp 26) rfl Tryz.underlying86 rfl Hi.out rfl rfl Hn.out Hc.out ?_)
        refine Calls.mono (HE.out X _ Fk wr B g2 cap2 cur HR.out HLj.out HBr.out Hnx.out) ?_
        rintro en w2 ⟨g3, cap3, rfl, hL3, hb3⟩
        have HL3 : Hid (LR B w2 ((l.take (j + 1)).foldl (fun a x => putsE d x a) xs) g3 cap3) := hide (by
          rw [fold_snoc HX.out, Hcur.out]
          exact hL3)
        have Hb3 := hide (below_step hBr hn0 hb3)
        have Hlen : Hid ((putsE d X cur).length = ((l.take (j + 1)).foldl (fun a x => putsE d x a) xs).length) := hide (by rw [fold_snoc HX.out, Hcur.out])
        clear hL3 hb3
        rw [Hlen.out]
        go_wp2_with fail
        go_roundw
        case rel => exact ⟨j + 1, g3, cap3, by omega, rfl, by go_num, HL3, Hb3⟩
        case measure => simp [intOf]; omega
      · have hjl : j = l.length := by omega
        rw [hjl, List.take_length] at HLj ⊢
        go_wp2_with fail
        go_ret
        exact ⟨g2, cap2, rfl, HLj.out, Hw.out wr hBr⟩
theorem t_Uses : ∀ d, UsS d
  | 0 => fun _ _ _ _ _ _ _ _ h => h.elim
  | d + 1 => t_Uses_step (t_Uses d)
end Go.Proofs.YthlhhnnlbpecnaaGreat

/- AttributeUses, the reference's side. Conditions: the expression has at most the size 2^20. -/
namespace Go.Proofs.YthlhhnnlbpecnaaGreat
set_option linter.unusedSimpArgs false
set_option linter.unusedVariables false
set_option maxRecDepth 100000
open Go.RowKit Go.WideShapes
set_option linter.unusedVariables false

set_option maxRecDepth 100000 in
set_option maxHeartbeats 2000000 in
theorem s_AttributeUses (D : Nat) (x : Ex) (cs : List Value) (F : List Nat) (w : World) (h : ExR D w x cs F) (hbk : bulkE D x ≤ 1048576) :
    Calls Tryz.prog 108 #[.agg cs.toArray] w fun en w' => ∃ v' G, en = .returned v' ∧ SlR 2 (OccR D) w' (sortO (usesE D x)) v' G ∧ Fresh w.heap.size w' G ∧ Below w.heap.size w w' := by
  have hn : (usesE D x).length ≤ 2097152 := by
    have := usesE_len D x
    have := cnt_le_bulk D x
    omega
  have hF := (ExR.good D).lt h
  obtain ⟨c0, c1, c2, c3, c4, c5, c6, rfl⟩ := list7 ((ExR.good D).len h)
  have Hn : Hid (([c0, c1, c2, c3, c4, c5, c6] : List Value).length = 7) := hide rfl
  have Hix : Hid ((Tryz.prog.info? 86).map (·.size) = some 7) := hide (by kernel_rfl)
  have ha : Below w.heap.size w (w.alloc (.cells #[c0, c1, c2, c3, c4, c5, c6] 86)) := (Below.refl _ _).alloc (Nat.le_refl _) _
  have hC := CellsAt.new w [c0, c1, c2, c3, c4, c5, c6] 86
  have hz := World.size_alloc w (.cells #[c0, c1, c2, c3, c4, c5, c6] 86)
  show Calls _ _ #[.agg #[c0, c1, c2, c3, c4, c5, c6]] w _
  go_enter Tryz.func108, Tryz.ntmps108
  go_wp2_with fail
  generalize w.alloc (.cells #[c0, c1, c2, c3, c4, c5, c6] 86) = W0 at ha hC hz ⊢
  have hb : Below w.heap.size w (W0.alloc (.cells #[] 81)) := ha.alloc ha.size _
  have hbl := heap_alloc_new W0 (.cells #[] 81)
  rw [hz] at hbl
  have HE := hide ((ExR.good D).below h hb hF)
  have HL : Hid (LR w.heap.size (W0.alloc (.cells #[] 81)) [] (w.heap.size + 1) 0) := hide ⟨fun i u hu => by simp [flatO] at hu, fun x hx => (by cases hx), Nat.le_refl _, by simp [maxLen], by omega, _, _, hbl⟩
  have HC := hide hC
  have Hb := hide hb
  clear h ha hC hb hbl hF
  go_wp2_with (refine wpList_load_at 86 (.tmp 1) rfl Tryz.underlying86 rfl Hix.out rfl rfl Hn.out HC.out ?_)
  have hU := t_Uses D x _ F _ w.heap.size (w.heap.size + 1) 0 [] HE.out HL.out Hb.out.size (by rw [List.length_nil, Nat.zero_add]; exact hn)
  rw [List.length_nil, show putsE D x [] = sortO (usesE D x) from rfl] at hU
  refine Calls.mono hU ?_
  rintro en w2 ⟨g, cap, rfl, hL, hb2⟩
  clear hU
  have HL2 := hide hL
  have Hb2 := hide (below_step Hb.out (Nat.le_refl _) hb2)
  clear hL hb2
  go_wp2_with fail
  go_ret
  obtain ⟨G, hG, hf⟩ := HL2.out.slr (D := D)
  exact ⟨_, G, rfl, hG, hf, Hb2.out⟩
end Go.Proofs.YthlhhnnlbpecnaaGreat

/- Does an expression use what it may not: the reference. Conditions: the grammar and the expression have at most the size 2^20. -/
namespace Go.Proofs.YthlhhnnlbpecnaaGreat
set_option linter.unusedSimpArgs false
set_option linter.unusedVariables false
set_option maxRecDepth 100000
open Go.RowKit Go.WideShapes
set_option linter.unusedVariables false

theorem wanted_go {p : Bool} {A B : Prop} (h : p = true) (hA : A) : if p = true then A else B := by rw [if_pos h]; exact hA
theorem wanted_no {p : Bool} {A B : Prop} (h : p = false) (hB : B) : if p = true then A else B := by rw [h]; exact hB
theorem step_loadG {P : Program} {ops : Array Oper} {o : Oper} {a : Act} {w : World} {K : Act → World → Prop} {Q : Exit → Act → World → Prop} {E : Prop} (hw : Region.wanted o (yielded ops a.tmps) = true) (ty : TypeId) (x : Operand) (ho : o.op = .load ty x)
    {d : TypeDesc} (hu : P.underlying ty = some d) (hd : (match d with | .struct _ | .array _ _ => true | _ => false) = true)
    {b off n : Nat} {cs : List Value} (hi : (P.info? ty).map (·.size) = some n) (hx : a.eval x = .pointer (some ⟨b, off, none⟩)) (hn : cs.length = n) (hc : CellsAt w b off cs)
    (h : K (a.put o.dst (.agg cs.toArray)) w) : if Region.wanted o (yielded ops a.tmps) = true then Oper.wp P o a w K Q else E := by
  rw [if_pos hw]
  subst hn
  unfold Oper.wp execOp
  simp only [ho, hx, Instr.loadAt, Instr.sureAddr, Sem.run_bind, Sem.run_pure, Result.andThen_ok, run_loadVar_at hu hd hi hc]
  exact h
set_option maxRecDepth 100000 in
set_option maxHeartbeats 4000000 in
theorem s_l11Uses (D : Nat) (g : Grm) (x : Rul) (y : Ex) (cg cr ce : List Value) (Fg Fr Fe : List Nat) (w : World) (hg : GrmR D w g cg Fg) (hr : RulR D w x cr Fr) (he : ExR D w y ce Fe) (hbg : bulkGrm D g ≤ 1048576) (hbk : bulkE D y ≤ 1048576) :
    Calls Tryz.prog 74 #[.agg cg.toArray, .agg cr.toArray, .agg ce.toArray] w fun en w' => en = .returned (.bool (!useE D g x y)) ∧ Below w.heap.size w w' := by
  have Hg : Hid (∀ W : World, Below w.heap.size w W → GrmR D W g cg Fg) := hide fun W hW => (GrmR.good D).below hg hW ((GrmR.good D).lt hg)
  have Hr : Hid (∀ W : World, Below w.heap.size w W → RulR D W x cr Fr) := hide fun W hW => (RulR.good D).below hr hW ((RulR.good D).lt hr)
  have He : Hid (∀ W : World, Below w.heap.size w W → ExR D W y ce Fe) := hide fun W hW => (ExR.good D).below he hW ((ExR.good D).lt he)
  obtain ⟨gc0, gc1, rfl⟩ := list2 ((GrmR.good D).len hg)
  obtain ⟨r0, r1, r2, r3, r4, r5, rfl⟩ := list_6 ((RulR.good D).len hr)
  obtain ⟨e0, e1, e2, e3, e4, e5, e6, rfl⟩ := list7 ((ExR.good D).len he)
  have Hig : Hid ((Tryz.prog.info? 32).map (·.size) = some 2) := hide (by kernel_rfl)
  have Hir : Hid ((Tryz.prog.info? 50).map (·.size) = some 6) := hide (by kernel_rfl)
  have Hio : Hid ((Tryz.prog.info? 81).map (·.size) = some 2) := hide (by kernel_rfl)
  have Hix : Hid ((Tryz.prog.info? 86).map (·.size) = some 7) := hide (by kernel_rfl)
  have Hbg := hide hbg
  have Hbk := hide hbk
  obtain ⟨CG, CR, CE, hz0, hw0⟩ := boxes3 w [gc0, gc1] [r0, r1, r2, r3, r4, r5] [e0, e1, e2, e3, e4, e5, e6] 32 50 86
  show Calls _ _ #[.agg #[gc0, gc1], .agg #[r0, r1, r2, r3, r4, r5], .agg #[e0, e1, e2, e3, e4, e5, e6]] w _
  clear hg hr he hbg hbk
  go_enter Tryz.func74, Tryz.ntmps74
  go_wp2_with fail
  generalize ((w.alloc (Obj.cells #[gc0, gc1] 32)).alloc (Obj.cells #[r0, r1, r2, r3, r4, r5] 50)).alloc (Obj.cells #[e0, e1, e2, e3, e4, e5, e6] 86) = W0 at CG CR CE hz0 hw0 ⊢
  have hn0 : w.heap.size + 3 ≤ W0.heap.size := by omega
  have Hw : Hid (∀ W : World, Below (w.heap.size + 3) W0 W → Below w.heap.size w W) := hide fun W h => hw0.trans (h.mono (by omega))
  have HcG : Hid (∀ W : World, Below (w.heap.size + 3) W0 W → CellsAt W w.heap.size 0 [gc0, gc1]) := hide fun W h => CG.below h (by omega)
  have HcR : Hid (∀ W : World, Below (w.heap.size + 3) W0 W → CellsAt W (w.heap.size + 1) 0 [r0, r1, r2, r3, r4, r5]) := hide fun W h => CR.below h (by omega)
  have HcE0 := hide CE
  have hB0 : Below (w.heap.size + 3) W0 W0 := Below.refl _ _
  clear CG CR CE hz0 hw0
  go_wp2_with (refine wpList_load_at 86 (.tmp 5) rfl Tryz.underlying86 rfl Hix.out rfl rfl rfl HcE0.out ?_)
  refine Calls.mono (s_AttributeUses D y _ Fe _ (He.out _ (Hw.out _ hB0)) Hbk.out) ?_
  rintro en W1 ⟨v', G, rfl, h1, h2, h3⟩
  have hUl : (useE D g x y) = (sortO (usesE D y)).any (fun o => !mayU g x o) := rfl
  have HU := hide hUl
  generalize sortO (usesE D y) = U at h1 HU
  obtain ⟨A, cap, rfl, hlc, hm⟩ := h1.form
  have hcap : cap ≤ maxLen := hm
  unfold maxLen at hcap
  have hB1 : Below (w.heap.size + 3) W0 W1 := below_step hB0 hn0 h3
  have LG1 := hide (h1.lt (OccR.good D))
  have H1 := hide h1
  have HW1 : Hid (∀ W : World, Below W1.heap.size W1 W → Below (w.heap.size + 3) W0 W) := hide fun W h => below_step hB1 hn0 h
  have hB11 : Below W1.heap.size W1 W1 := Below.refl _ _
  clear h1 h2 h3 hm hUl HcE0
  go_wp2_with fail
  go_loopw [8] (fun i wr => ∃ j : Nat, j ≤ U.length ∧ i = .int .i64 j ∧ Hid ((U.take j).any (fun o => !mayU g x o) = false) ∧ Hid (Below W1.heap.size W1 wr)) (fun i _ => U.length - (intOf i).toNat)
  case atStart => exact ⟨0, by omega, rfl, hide rfl, hide hB11⟩
  case round =>
    obtain ⟨j, hj, rfl, Hno, Hb⟩ := hrel
    have hBr := Hb.out
    have hB0r : Below (w.heap.size + 3) W0 wr := HW1.out _ hBr
    by_cases hlt : j < U.length
    · have hX : U[j]? = some U[j] := List.getElem?_eq_getElem hlt
      generalize U[j] = o at hX
      obtain ⟨b, off, cs, Fk, hA, _, hbF, hFk, hcl, hcat, hR⟩ := SlR.get (OccR.good D) H1.out hX
      subst hA
      obtain ⟨c0, c1, rfl⟩ := list2 hcl
      have HRk := hide hR
      have HX := hide hX
      have hblt := LG1.out b hbF
      have HlF : Hid (∀ k ∈ Fk, k < W1.heap.size) := hide fun k hk => LG1.out k (hFk k hk)
      have HW : Hid (∀ W : World, Below wr.heap.size wr W → Below W1.heap.size W1 W) := hide fun W h => hBr.trans (h.mono hBr.size)
      have HcE : Hid (∀ W : World, Below wr.heap.size wr W → CellsAt W b (off + j * 2) [c0, c1]) := hide fun W h => hcat.below (HW.out W h) hblt
      have hj0 : (0 : Int) ≤ (j : Int) := by omega
      have hj1 : (j : Int) < (U.length : Int) := by omega
      obtain ⟨q, hq⟩ : ∃ q, q = mayU g x o := ⟨_, rfl⟩
      have Hq := hide hq
      have Hmu : Hid (∀ W : World, Below wr.heap.size wr W → Calls Tryz.prog 109 #[.agg #[gc0, gc1], .agg #[r0, r1, r2, r3, r4, r5], .agg #[c0, c1]] W fun en w' => en = .returned (.bool q) ∧ Below W.heap.size W w') := hide fun W h => hq ▸ s_MayUse D g x o _ _ _ Fg Fr Fk W (Hg.out W (Hw.out W (HW1.out W (HW.out W h)))) (Hr.out W (Hw.out W (HW1.out W (HW.out W h)))) ((OccR.good D).below HRk.out (HW.out W h) HlF.out) Hbg.out
      clear hX hFk hbF hcl hcat hq hR
      go_wp2_with fail
      refine region_invA (fun a0 l a' w' => ∃ x0 x1 x2 x3 x4 x5 x6 x7 : Value, a' = ((((((((a0.put (some 17) x0).put (some 18) x1).put (some 19) x2).put (some 20) x3).put (some 21) x4).put (some 22) x5).put (some 23) x6).put (some 24) x7) ∧ (l 7 = true → ∀ i, i < 7 → l i = true) ∧ (l 7 = true → x7 = .bool (!q) ∧ Below wr.heap.size wr w') ∧ (l 7 = false → Below wr.heap.size wr w' ∧ (l 0 = true → x0 = .agg #[gc0, gc1]) ∧ (l 1 = true → x1 = .agg #[r0, r1, r2, r3, r4, r5]) ∧ (l 2 = true → x2 = .slice (some ⟨b, off, none⟩) U.length cap) ∧ (l 3 = true → x3 = .int .i64 (j : Int)) ∧ (l 4 = true → x4 = .pointer (some ⟨b, off + j * 2, none⟩)) ∧ (l 5 = true → x5 = .agg #[c0, c1]) ∧ (l 6 = true → x6 = .bool q))) rfl (by kernel_rfl) ?h0 ?hstep ?hend
      case h0 => exact ⟨u17, u18, u19, u20, u21, u22, u23, u24, by kernel_rfl, fun h => absurd h (by decide), fun h => absurd h (by decide), fun _ => ⟨(Below.refl _ _).drew, fun h => absurd h (by decide), fun h => absurd h (by decide), fun h => absurd h (by decide), fun h => absurd h (by decide), fun h => absurd h (by decide), fun h => absurd h (by decide), fun h => absurd h (by decide)⟩⟩
      case hstep =>
        refine ⟨?s0, ?s1, ?s2, ?s3, ?s4, ?s5, ?s6, ?s7, trivial⟩
        case s0 =>
          intro l a' w' hk hpre hJ K hK
          obtain ⟨x0, x1, x2, x3, x4, x5, x6, x7, ha, hall, hfin, hfs⟩ := hJ
          have h12 : l 7 = false := upd_last hall hk (by decide)
          clear hall hfin
          obtain ⟨hB, f0, f1, f2, f3, f4, f5, f6⟩ := hfs h12
          clear hfs
          refine step_load rfl 32 (.tmp 3) rfl Tryz.underlying32 rfl (cs := [gc0, gc1]) (b := w.heap.size) (off := 0) Hig.out (by rw [ha]; kernel_rfl) rfl (HcG.out _ (HW1.out _ (HW.out _ hB))) ?_
          subst ha
          exact hK.out _ _ ⟨.agg #[gc0, gc1], x1, x2, x3, x4, x5, x6, x7, by kernel_rfl, fun h => absurd (updL_ne h (by decide)) (by rw [h12]; decide), fun h => absurd (updL_ne h (by decide)) (by rw [h12]; decide), fun _ => ⟨hB, fun _ => rfl, fun h => f1 (updL_ne h (by decide)), fun h => f2 (updL_ne h (by decide)), fun h => f3 (updL_ne h (by decide)), fun h => f4 (updL_ne h (by decide)), fun h => f5 (updL_ne h (by decide)), fun h => f6 (updL_ne h (by decide))⟩⟩
        case s1 =>
          intro l a' w' hk hpre hJ K hK
          obtain ⟨x0, x1, x2, x3, x4, x5, x6, x7, ha, hall, hfin, hfs⟩ := hJ
          have h12 : l 7 = false := upd_last hall hk (by decide)
          clear hall hfin
          obtain ⟨hB, f0, f1, f2, f3, f4, f5, f6⟩ := hfs h12
          clear hfs
          refine step_load rfl 50 (.tmp 4) rfl Tryz.underlying50 rfl (cs := [r0, r1, r2, r3, r4, r5]) (b := w.heap.size + 1) (off := 0) Hir.out (by rw [ha]; kernel_rfl) rfl (HcR.out _ (HW1.out _ (HW.out _ hB))) ?_
          subst ha
          exact hK.out _ _ ⟨x0, .agg #[r0, r1, r2, r3, r4, r5], x2, x3, x4, x5, x6, x7, by kernel_rfl, fun h => absurd (updL_ne h (by decide)) (by rw [h12]; decide), fun h => absurd (updL_ne h (by decide)) (by rw [h12]; decide), fun _ => ⟨hB, fun h => f0 (updL_ne h (by decide)), fun _ => rfl, fun h => f2 (updL_ne h (by decide)), fun h => f3 (updL_ne h (by decide)), fun h => f4 (updL_ne h (by decide)), fun h => f5 (updL_ne h (by decide)), fun h => f6 (updL_ne h (by decide))⟩⟩
        case s2 =>
          intro l a' w' hk hpre hJ K hK
          obtain ⟨x0, x1, x2, x3, x4, x5, x6, x7, ha, hall, hfin, hfs⟩ := hJ
          have h12 : l 7 = false := upd_last hall hk (by decide)
          clear hall hfin
          obtain ⟨hB, f0, f1, f2, f3, f4, f5, f6⟩ := hfs h12
          clear hfs
          subst ha
          go_simp
          exact hK.out _ _ ⟨x0, x1, .slice (some ⟨b, off, none⟩) U.length cap, x3, x4, x5, x6, x7, by kernel_rfl, fun h => absurd (updL_ne h (by decide)) (by rw [h12]; decide), fun h => absurd (updL_ne h (by decide)) (by rw [h12]; decide), fun _ => ⟨hB, fun h => f0 (updL_ne h (by decide)), fun h => f1 (updL_ne h (by decide)), fun _ => rfl, fun h => f3 (updL_ne h (by decide)), fun h => f4 (updL_ne h (by decide)), fun h => f5 (updL_ne h (by decide)), fun h => f6 (updL_ne h (by decide))⟩⟩
        case s3 =>
          intro l a' w' hk hpre hJ K hK
          obtain ⟨x0, x1, x2, x3, x4, x5, x6, x7, ha, hall, hfin, hfs⟩ := hJ
          have h12 : l 7 = false := upd_last hall hk (by decide)
          clear hall hfin
          obtain ⟨hB, f0, f1, f2, f3, f4, f5, f6⟩ := hfs h12
          clear hfs
          subst ha
          go_simp
          exact hK.out _ _ ⟨x0, x1, x2, .int .i64 (j : Int), x4, x5, x6, x7, by kernel_rfl, fun h => absurd (updL_ne h (by decide)) (by rw [h12]; decide), fun h => absurd (updL_ne h (by decide)) (by rw [h12]; decide), fun _ => ⟨hB, fun h => f0 (updL_ne h (by decide)), fun h => f1 (updL_ne h (by decide)), fun h => f2 (updL_ne h (by decide)), fun _ => rfl, fun h => f4 (updL_ne h (by decide)), fun h => f5 (updL_ne h (by decide)), fun h => f6 (updL_ne h (by decide))⟩⟩
        case s4 =>
          intro l a' w' hk hpre hJ K hK
          obtain ⟨x0, x1, x2, x3, x4, x5, x6, x7, ha, hall, hfin, hfs⟩ := hJ
          have h12 : l 7 = false := upd_last hall hk (by decide)
          clear hall hfin
          obtain ⟨hB, f0, f1, f2, f3, f4, f5, f6⟩ := hfs h12
          clear hfs
          have p2 : l 2 = true := hpre 2 (by kernel_rfl)
          have p3 : l 3 = true := hpre 3 (by kernel_rfl)
          obtain rfl := f2 p2
          obtain rfl := f3 p3
          subst ha
          go_simp
          exact hK.out _ _ ⟨x0, x1, .slice (some ⟨b, off, none⟩) U.length cap, .int .i64 (j : Int), .pointer (some ⟨b, off + j * 2, none⟩), x5, x6, x7, by kernel_rfl, fun h => absurd (updL_ne h (by decide)) (by rw [h12]; decide), fun h => absurd (updL_ne h (by decide)) (by rw [h12]; decide), fun _ => ⟨hB, fun h => f0 (updL_ne h (by decide)), fun h => f1 (updL_ne h (by decide)), fun h => f2 (updL_ne h (by decide)), fun h => f3 (updL_ne h (by decide)), fun _ => rfl, fun h => f5 (updL_ne h (by decide)), fun h => f6 (updL_ne h (by decide))⟩⟩
        case s5 =>
          intro l a' w' hk hpre hJ K hK
          obtain ⟨x0, x1, x2, x3, x4, x5, x6, x7, ha, hall, hfin, hfs⟩ := hJ
          have h12 : l 7 = false := upd_last hall hk (by decide)
          clear hall hfin
          obtain ⟨hB, f0, f1, f2, f3, f4, f5, f6⟩ := hfs h12
          clear hfs
          have p4 : l 4 = true := hpre 4 (by kernel_rfl)
          obtain rfl := f4 p4
          refine step_load rfl 81 (.tmp 21) rfl Tryz.underlying81 rfl (cs := [c0, c1]) (b := b) (off := off + j * 2) Hio.out (by rw [ha]; kernel_rfl) rfl (HcE.out _ hB) ?_
          subst ha
          exact hK.out _ _ ⟨x0, x1, x2, x3, .pointer (some ⟨b, off + j * 2, none⟩), .agg #[c0, c1], x6, x7, by kernel_rfl, fun h => absurd (updL_ne h (by decide)) (by rw [h12]; decide), fun h => absurd (updL_ne h (by decide)) (by rw [h12]; decide), fun _ => ⟨hB, fun h => f0 (updL_ne h (by decide)), fun h => f1 (updL_ne h (by decide)), fun h => f2 (updL_ne h (by decide)), fun h => f3 (updL_ne h (by decide)), fun h => f4 (updL_ne h (by decide)), fun _ => rfl, fun h => f6 (updL_ne h (by decide))⟩⟩
        case s6 =>
          intro l a' w' hk hpre hJ K hK
          obtain ⟨x0, x1, x2, x3, x4, x5, x6, x7, ha, hall, hfin, hfs⟩ := hJ
          have h12 : l 7 = false := upd_last hall hk (by decide)
          clear hall hfin
          obtain ⟨hB, f0, f1, f2, f3, f4, f5, f6⟩ := hfs h12
          clear hfs
          have p0 : l 0 = true := hpre 0 (by kernel_rfl)
          have p1 : l 1 = true := hpre 1 (by kernel_rfl)
          have p5 : l 5 = true := hpre 5 (by kernel_rfl)
          obtain rfl := f0 p0
          obtain rfl := f1 p1
          obtain rfl := f5 p5
          subst ha
          go_simp
          go_at_call 109
          refine Calls.mono (Hmu.out w' hB) ?_
          rintro en w2 ⟨rfl, hb2⟩
          exact hK.out _ _ ⟨.agg #[gc0, gc1], .agg #[r0, r1, r2, r3, r4, r5], x2, x3, x4, .agg #[c0, c1], .bool q, x7, by kernel_rfl, fun h => absurd (updL_ne h (by decide)) (by rw [h12]; decide), fun h => absurd (updL_ne h (by decide)) (by rw [h12]; decide), fun _ => ⟨hB.trans (hb2.mono hB.size), fun h => f0 (updL_ne h (by decide)), fun h => f1 (updL_ne h (by decide)), fun h => f2 (updL_ne h (by decide)), fun h => f3 (updL_ne h (by decide)), fun h => f4 (updL_ne h (by decide)), fun h => f5 (updL_ne h (by decide)), fun _ => rfl⟩⟩
        case s7 =>
          intro l a' w' hk hpre hJ K hK
          obtain ⟨x0, x1, x2, x3, x4, x5, x6, x7, ha, hall, hfin, hfs⟩ := hJ
          have h12 : l 7 = false := hk
          clear hall hfin
          obtain ⟨hB, f0, f1, f2, f3, f4, f5, f6⟩ := hfs h12
          clear hfs
          have p6 : l 6 = true := hpre 6 (by kernel_rfl)
          obtain rfl := f6 p6
          subst ha
          go_simp
          exact hK.out _ _ ⟨x0, x1, x2, x3, x4, x5, .bool q, .bool (!q), by kernel_rfl, fun _ => deep_all hpre (by kernel_rfl) _, fun _ => ⟨rfl, hB⟩, fun h => absurd h (by simp [updL])⟩
      case hend =>
        intro l a' w' hl hJ
        obtain ⟨x0, x1, x2, x3, x4, x5, x6, x7, ha, _, hfin, _⟩ := hJ
        simp [go_sem] at ha
        subst ha
        replace hfin := hfin (hl 7 (by decide))
        clear hl
        obtain ⟨rfl, hB⟩ := hfin
        have HB2 := hide (HW.out _ hB)
        clear hB
        cases q
        · have Hyes : Hid (useE D g x y = true) := hide (by rw [HU.out]; exact any_at HX.out (show (!mayU g x o) = true by rw [← Hq.out]; rfl))
          go_wp2_with fail
          go_ret
          exact ⟨ret_bool (by rw [Hyes.out]; rfl), Hw.out _ (HW1.out _ HB2.out)⟩
        · have Hno2 := hide (any_next HX.out Hno.out (show (!mayU g x o) = false by rw [← Hq.out]; rfl))
          go_wp2_with fail
          go_roundw
          case rel => exact ⟨j + 1, by omega, by go_num, Hno2, HB2⟩
          case measure => simp [intOf]; omega
    · have hjl : j = U.length := by omega
      have Hall : Hid (useE D g x y = false) := hide (by have := Hno.out; rw [hjl, List.take_length] at this; rw [HU.out]; exact this)
      have hj1 : ¬ (j : Int) < (U.length : Int) := by omega
      go_wp2_with fail
      go_ret
      exact ⟨ret_bool (by rw [Hall.out]; rfl), Hw.out _ hB0r⟩
end Go.Proofs.YthlhhnnlbpecnaaGreat
