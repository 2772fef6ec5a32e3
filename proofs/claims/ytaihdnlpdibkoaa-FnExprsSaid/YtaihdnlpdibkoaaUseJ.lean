/- AttributeUses, the reference's side. Conditions: the expression has at most the size 2^20. -/
import Derived.Test.YtaihdnlpdibkoaaUseI
namespace Go.Proofs.Ytaihdnlpdibkoaa
set_option maxRecDepth 100000
open Go.RowKit Go.WideShapes
set_option linter.unusedVariables false

theorem insO_len : ∀ (l : List Occ) (x : Occ), (insO l x).length ≤ l.length + 1
  | [], x => by simp [insO]
  | y :: r, x => by
    have h := insO_len r x
    unfold insO
    split
    · simp only [List.length_cons]; omega
    · split <;> simp
theorem foldO_len : ∀ (us l : List Occ), (us.foldl insO l).length ≤ l.length + us.length
  | [], l => by simp
  | u :: r, l => by
    have h1 := foldO_len r (insO l u)
    have h2 := insO_len l u
    simp only [List.foldl_cons, List.length_cons]
    omega
theorem putsE_succ (d : Nat) (e : Ex) (l : List Occ) : putsE (d + 1) e l = e.args.foldl (fun a x => putsE d x a) ((useH e.h).foldl insO l) := by
  unfold putsE
  simp only [usesE, List.foldl_append, List.foldl_flatten, List.foldl_map]
theorem fold_snoc {d : Nat} {l : List Ex} {j : Nat} {x : Ex} (hx : l[j]? = some x) (a : List Occ) : (l.take (j + 1)).foldl (fun a x => putsE d x a) a = putsE d x ((l.take j).foldl (fun a x => putsE d x a) a) := by
  rw [take_snoc hx, List.foldl_append]
  rfl
theorem foldE_len {d : Nat} : ∀ (l : List Ex) (a : List Occ), (l.foldl (fun a x => putsE d x a) a).length ≤ a.length + ((l.map (usesE d)).flatten).length
  | [], a => by simp
  | x :: r, a => by
    have h1 := foldE_len (d := d) r (putsE d x a)
    have h2 := foldO_len (usesE d x) a
    simp only [List.foldl_cons, List.map_cons, List.flatten_cons, List.length_append]
    unfold putsE at h1 ⊢
    omega
def UsS (d : Nat) : Prop := ∀ (e : Ex) (cs : List Value) (F : List Nat) (w : World) (B g cap : Nat) (xs : List Occ), ExR d w e cs F → LR B w xs g cap → B ≤ w.heap.size → xs.length + (usesE d e).length ≤ 2097152 →
  Calls Try.prog 56 #[.agg cs.toArray, .slice (some ⟨g, 0, none⟩) xs.length cap] w fun en w' => ∃ g' cap', en = .returned (.slice (some ⟨g', 0, none⟩) (putsE d e xs).length cap') ∧ LR B w' (putsE d e xs) g' cap' ∧ Below w.heap.size w w'
set_option maxRecDepth 100000 in
set_option maxHeartbeats 4000000 in
theorem t_Uses_step {d : Nat} (hE : UsS d) : UsS (d + 1) := fun e cs F w B g cap xs h hL hB hn => by
  obtain ⟨A, capA, rfl, hok, hl, hm, hs⟩ := ex_form h
  have hps := putsE_succ d e xs
  have hnE : (usesE (d + 1) e).length = (useH e.h).length + ((e.args.map (usesE d)).flatten).length := by simp only [usesE, List.length_append]
  rw [hnE] at hn
  rw [hps]
  clear hps hnE
  obtain ⟨⟨k, n, p, t, s, m⟩, l⟩ := e
  simp only [Ex.args, Ex.h] at hs hl hok hn ⊢
  have hl' : l.length ≤ 9223372036854775807 := by unfold maxLen at hm; omega
  have Hs := hide hs
  have HF := hide (hs.lt (ExR.good d))
  have HE := hide hE
  have HL := hide hL
  have Hok := hide hok
  have Hi : Hid ((Try.prog.info? 52).map (·.size) = some 7) := hide (by kernel_rfl)
  have hw0 : Below w.heap.size w (w.alloc (.cells #[.int .i64 k, .int .i64 n, .int .i64 p, .int .i64 t, .string s, .string m, .slice A l.length capA] 52)) := (Below.refl _ _).alloc (Nat.le_refl _) _
  have hC := CellsAt.new w [.int .i64 k, .int .i64 n, .int .i64 p, .int .i64 t, .string s, .string m, .slice A l.length capA] 52
  have hz := World.size_alloc w (.cells #[.int .i64 k, .int .i64 n, .int .i64 p, .int .i64 t, .string s, .string m, .slice A l.length capA] 52)
  show Calls _ _ #[.agg #[.int .i64 k, .int .i64 n, .int .i64 p, .int .i64 t, .string s, .string m, .slice A l.length capA], .slice (some ⟨g, 0, none⟩) xs.length cap] w _
  clear h hL hs hE hok
  by_cases hk : k = 3
  · subst hk
    have hu : useH ⟨3, n, p, t, s, m⟩ = [⟨p, m⟩] := rfl
    rw [hu] at hn ⊢
    simp only [List.foldl_cons, List.foldl_nil, List.length_singleton] at hn ⊢
    obtain ⟨us, hus⟩ : ∃ us, us = insO xs ⟨p, m⟩ := ⟨_, rfl⟩
    rw [← hus]
    have Hus := hide hus
    clear hus hu
    go_enter Try.func56, Try.ntmps56
    go_wp2_with fail
    generalize w.alloc (.cells #[.int .i64 3, .int .i64 n, .int .i64 p, .int .i64 t, .string s, .string m, .slice A l.length capA] 52) = W0 at hw0 hC hz ⊢
    have hn0 : w.heap.size + 1 ≤ W0.heap.size := by omega
    have Hw : Hid (∀ W : World, Below (w.heap.size + 1) W0 W → Below w.heap.size w W) := hide fun W h => hw0.trans (h.mono (by omega))
    have e6 := cell_rule hC (n := w.heap.size + 1) (by omega) 6 rfl
    have hL0 := HL.out.below hw0
    clear hw0 hC hz
    have hp := t_Put B g cap xs ⟨p, m⟩ W0 hL0 ⟨Hok.out.pos, Hok.out.name⟩ (by omega) (by omega)
    have hi := insO_len xs ⟨p, m⟩
    rw [← Hus.out] at hp hi
    refine Calls.mono hp ?_
    rintro en w1 ⟨g1, cap1, rfl, hL1, hb1⟩
    have hW1 : Below (w.heap.size + 1) W0 w1 := hb1.mono hn0
    have hnu : us.length + ((l.map (usesE d)).flatten).length ≤ 2097152 := by omega
    have HL1 := hide hL1
    have HW1 := hide hW1
    clear hb1 hL0 hL1 hi hn hp
    go_wp2_with fail
    go_loopw [1, 5] (fun q i wr => ∃ (j g2 cap2 : Nat), j ≤ l.length ∧ q = .slice (some ⟨g2, 0, none⟩) ((l.take j).foldl (fun a x => putsE d x a) us).length cap2 ∧ i = .int .i64 j ∧ Hid (LR B wr ((l.take j).foldl (fun a x => putsE d x a) us) g2 cap2) ∧ Hid (Below (w.heap.size + 1) W0 wr)) (fun _ i _ => l.length - (intOf i).toNat)
    case atStart => exact ⟨0, _, _, by omega, rfl, rfl, HL1, HW1⟩
    case round =>
      obtain ⟨j, g2, cap2, hj, rfl, rfl, HLj, Hb⟩ := hrel
      have hBr := Hb.out
      by_cases hlt : j < l.length
      · have hX : l[j]? = some l[j] := List.getElem?_eq_getElem hlt
        generalize l[j] = X at hX
        have HX := hide hX
        obtain ⟨b, off, es, Fk, hA, _, hbF, hFk, hcl, hcat, hR⟩ := SlR.get (ExR.good d) (Hs.out.below (ExR.good d) (Hw.out wr hBr) HF.out) hX
        subst hA
        obtain ⟨c0, c1, c2, c3, c4, c5, c6, rfl⟩ := list7 hcl
        have HR := hide hR
        have Hc := hide hcat
        have Hn : Hid (([c0, c1, c2, c3, c4, c5, c6] : List Value).length = 7) := hide rfl
        have hj0 : (0 : Int) ≤ (j : Int) := by omega
        have hj1 : (j : Int) < (l.length : Int) := by omega
        have HBr : Hid (B ≤ wr.heap.size) := hide (Nat.le_trans hB (Hw.out wr hBr).size)
        have Hnx : Hid (((l.take j).foldl (fun a x => putsE d x a) us).length + (usesE d X).length ≤ 2097152) := hide (by
          have h1 := foldE_len (d := d) (l.take j) us
          have h2 := flat_le (d := d) hX
          omega)
        clear hX hcat hFk hbF hcl hR
        generalize hcur : (l.take j).foldl (fun a x => putsE d x a) us = cur at HLj Hnx ⊢
        have Hcur := hide hcur
        clear hcur
        go_wp2_with (refine wpList_load_at 52 (.tmp 26) rfl Try.underlying52 rfl Hi.out rfl rfl Hn.out Hc.out ?_)
        refine Calls.mono (HE.out X _ Fk wr B g2 cap2 cur HR.out HLj.out HBr.out Hnx.out) ?_
        rintro en w2 ⟨g3, cap3, rfl, hL3, hb3⟩
        have HL3 : Hid (LR B w2 ((l.take (j + 1)).foldl (fun a x => putsE d x a) us) g3 cap3) := hide (by
          rw [fold_snoc HX.out, Hcur.out]
          exact hL3)
        have Hb3 := hide (below_step hBr hn0 hb3)
        have Hlen : Hid ((putsE d X cur).length = ((l.take (j + 1)).foldl (fun a x => putsE d x a) us).length) := hide (by rw [fold_snoc HX.out, Hcur.out])
        clear hL3 hb3
        rw [Hlen.out]
        go_wp2_with fail
        go_roundw
        case rel => exact ⟨j + 1, g3, cap3, by omega, rfl, by go_num, HL3, Hb3⟩
        case measure => simp [intOf]; omega
      · have hjl : j = l.length := by omega
        rw [hjl, List.take_length] at HLj ⊢
        go_wp2_with fail
        go_ret
        exact ⟨g2, cap2, rfl, HLj.out, Hw.out wr hBr⟩
  · have hu : useH ⟨k, n, p, t, s, m⟩ = [] := if_neg hk
    rw [hu] at hn ⊢
    simp only [List.foldl_nil, List.length_nil] at hn ⊢
    have hk3 : (k == 3) = false := beq_eq_false_iff_ne.2 hk
    go_enter Try.func56, Try.ntmps56
    go_wp2_with fail
    generalize w.alloc (.cells #[.int .i64 k, .int .i64 n, .int .i64 p, .int .i64 t, .string s, .string m, .slice A l.length capA] 52) = W0 at hw0 hC hz ⊢
    have hn0 : w.heap.size + 1 ≤ W0.heap.size := by omega
    have Hw : Hid (∀ W : World, Below (w.heap.size + 1) W0 W → Below w.heap.size w W) := hide fun W h => hw0.trans (h.mono (by omega))
    have e6 := cell_rule hC (n := w.heap.size + 1) (by omega) 6 rfl
    have HL1 := hide (HL.out.below hw0)
    have HW1 : Hid (Below (w.heap.size + 1) W0 W0) := hide (Below.refl _ _)
    obtain ⟨w1, hw1⟩ : ∃ W, W = W0 := ⟨_, rfl⟩
    have hnu : xs.length + ((l.map (usesE d)).flatten).length ≤ 2097152 := by omega
    clear hw0 hC hz hn hw1
    go_wp2_with fail
    go_loopw [1, 5] (fun q i wr => ∃ (j g2 cap2 : Nat), j ≤ l.length ∧ q = .slice (some ⟨g2, 0, none⟩) ((l.take j).foldl (fun a x => putsE d x a) xs).length cap2 ∧ i = .int .i64 j ∧ Hid (LR B wr ((l.take j).foldl (fun a x => putsE d x a) xs) g2 cap2) ∧ Hid (Below (w.heap.size + 1) W0 wr)) (fun _ i _ => l.length - (intOf i).toNat)
    case atStart => exact ⟨0, _, _, by omega, rfl, rfl, HL1, HW1⟩
    case round =>
      obtain ⟨j, g2, cap2, hj, rfl, rfl, HLj, Hb⟩ := hrel
      have hBr := Hb.out
      by_cases hlt : j < l.length
      · have hX : l[j]? = some l[j] := List.getElem?_eq_getElem hlt
        generalize l[j] = X at hX
        have HX := hide hX
        obtain ⟨b, off, es, Fk, hA, _, hbF, hFk, hcl, hcat, hR⟩ := SlR.get (ExR.good d) (Hs.out.below (ExR.good d) (Hw.out wr hBr) HF.out) hX
        subst hA
        obtain ⟨c0, c1, c2, c3, c4, c5, c6, rfl⟩ := list7 hcl
        have HR := hide hR
        have Hc := hide hcat
        have Hn : Hid (([c0, c1, c2, c3, c4, c5, c6] : List Value).length = 7) := hide rfl
        have hj0 : (0 : Int) ≤ (j : Int) := by omega
        have hj1 : (j : Int) < (l.length : Int) := by omega
        have HBr : Hid (B ≤ wr.heap.size) := hide (Nat.le_trans hB (Hw.out wr hBr).size)
        have Hnx : Hid (((l.take j).foldl (fun a x => putsE d x a) xs).length + (usesE d X).length ≤ 2097152) := hide (by
          have h1 := foldE_len (d := d) (l.take j) xs
          have h2 := flat_le (d := d) hX
          omega)
        clear hX hcat hFk hbF hcl hR
        generalize hcur : (l.take j).foldl (fun a x => putsE d x a) xs = cur at HLj Hnx ⊢
        have Hcur := hide hcur
        clear hcur
        go_wp2_with (refine wpList_load_at 52 (.tmp 26) rfl Try.underlying52 rfl Hi.out rfl rfl Hn.out Hc.out ?_)
        refine Calls.mono (HE.out X _ Fk wr B g2 cap2 cur HR.out HLj.out HBr.out Hnx.out) ?_
        rintro en w2 ⟨g3, cap3, rfl, hL3, hb3⟩
        have HL3 : Hid (LR B w2 ((l.take (j + 1)).foldl (fun a x => putsE d x a) xs) g3 cap3) := hide (by
          rw [fold_snoc HX.out, Hcur.out]
          exact hL3)
        have Hb3 := hide (below_step hBr hn0 hb3)
        have Hlen : Hid ((putsE d X cur).length = ((l.take (j + 1)).foldl (fun a x => putsE d x a) xs).length) := hide (by rw [fold_snoc HX.out, Hcur.out])
        clear hL3 hb3
        rw [Hlen.out]
        go_wp2_with fail
        go_roundw
        case rel => exact ⟨j + 1, g3, cap3, by omega, rfl, by go_num, HL3, Hb3⟩
        case measure => simp [intOf]; omega
      · have hjl : j = l.length := by omega
        rw [hjl, List.take_length] at HLj ⊢
        go_wp2_with fail
        go_ret
        exact ⟨g2, cap2, rfl, HLj.out, Hw.out wr hBr⟩
theorem t_Uses : ∀ d, UsS d
  | 0 => fun _ _ _ _ _ _ _ _ h => h.elim
  | d + 1 => t_Uses_step (t_Uses d)
end Go.Proofs.Ytaihdnlpdibkoaa
