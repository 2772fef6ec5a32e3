/- AttributeUses, the program's side. Conditions: the expression has at most the size 2^20. -/
import Derived.Test.YtaihdnlpdibkoaaUseG
namespace Go.Proofs.Ytaihdnlpdibkoaa
set_option maxRecDepth 100000
open Go.RowKit Go.WideShapes
set_option linter.unusedVariables false

theorem compactUpTo_le {α : Type} [DecidableEq α] [Inhabited α] (d : Array α) : ∀ m, (Lib.compactUpTo d m).length ≤ m
  | 0 => by simp [Lib.compactUpTo]
  | m + 1 => by
    have h := compactUpTo_le d m
    rw [Lib.compactUpTo_succ, List.length_append]
    split
    · rw [List.length_singleton]; omega
    · rw [List.length_nil]; omega
theorem srt_upto (U : List Occ) : Lib.compactUpTo (srt U).toArray U.length = sortO U := by
  rw [← srt_once]
  unfold Lib.compact
  rw [srt_len]
theorem sortO_len (U : List Occ) : (sortO U).length ≤ U.length := by
  rw [← srt_upto]
  exact compactUpTo_le _ _
theorem OwnS.none0 {B n cap : Nat} {w : World} {xs : List Occ} (h : OwnS 2 (OccR 0) B 65 w xs (.slice none n cap) []) : xs = [] ∧ n = 0 ∧ cap = 0 := by
  obtain ⟨⟨cl, ⟨h1, h2⟩, hel⟩, _, _⟩ := h
  rcases h2 with ⟨h2, h3⟩ | ⟨g', cap', cur, hv, _⟩
  · injection h2 with _ h4 h5
    exact ⟨List.eq_nil_of_length_eq_zero h3, h4, h5⟩
  · injection hv with hv1
    cases hv1
set_option maxRecDepth 100000 in
set_option maxHeartbeats 2000000 in
theorem i_AttributeUses (D : Nat) (x : Ex) (cs : List Value) (F : List Nat) (w : World) (h : ExR D w x cs F) (hbk : bulkE D x ≤ 1048576) :
    Calls Try.prog 18 #[.agg cs.toArray] w fun en w' => ∃ v' G, en = .returned v' ∧ SlR 2 (OccR D) w' (sortO (usesE D x)) v' G ∧ Fresh w.heap.size w' G ∧ Below w.heap.size w w' := by
  have hn : (usesE D x).length ≤ 2097152 := by
    have := usesE_len D x
    have := cnt_le_bulk D x
    omega
  obtain ⟨U, hU⟩ : ∃ U, U = usesE D x := ⟨_, rfl⟩
  rw [← hU] at hn ⊢
  have HU := hide hU
  clear hU
  have HF := hide ((ExR.good D).lt h)
  have Hn7 := (ExR.good D).len h
  obtain ⟨c0, c1, c2, c3, c4, c5, c6, rfl⟩ := list7 Hn7
  have H1 := hide (ExR.one h)
  have Hn : Hid (([c0, c1, c2, c3, c4, c5, c6] : List Value).length = 7) := hide rfl
  have Hix : Hid ((Try.prog.info? 52).map (·.size) = some 7) := hide (by kernel_rfl)
  have ha : Below w.heap.size w (w.alloc (.cells #[c0, c1, c2, c3, c4, c5, c6] 52)) := (Below.refl _ _).alloc (Nat.le_refl _) _
  have hb : Below w.heap.size w ((w.alloc (.cells #[c0, c1, c2, c3, c4, c5, c6] 52)).alloc (.cells #[] 65)) := ha.alloc ha.size _
  have ho := OwnS.made (n := 2) (R := OccR 0) (e := 65) (w.alloc (.cells #[c0, c1, c2, c3, c4, c5, c6] 52)) (B := w.heap.size) (by simp)
  rw [World.size_alloc] at ho
  obtain ⟨Wb, hWb⟩ : ∃ W, W = (w.alloc (.cells #[c0, c1, c2, c3, c4, c5, c6] 52)).alloc (.cells #[] 65) := ⟨_, rfl⟩
  have hWz : Wb.heap.size = w.heap.size + 2 := by rw [hWb]; simp
  have hC : CellsAt Wb w.heap.size 0 [c0, c1, c2, c3, c4, c5, c6] := by
    rw [hWb]
    exact (CellsAt.new w [c0, c1, c2, c3, c4, c5, c6] 52).below ((Below.refl (w.heap.size + 1) _).alloc (by simp) _) (by omega)
  rw [← hWb] at hb ho
  have hd : Below Wb.heap.size Wb (Wb.alloc (.cells #[.slice (some ⟨w.heap.size + 1, 0, none⟩) 0 0] 48)) := (Below.refl _ _).alloc (Nat.le_refl _) _
  have hbx := heap_alloc_new Wb (.cells #[.slice (some ⟨w.heap.size + 1, 0, none⟩) 0 0] 48)
  have hw1 : Below w.heap.size w (Wb.alloc (.cells #[.slice (some ⟨w.heap.size + 1, 0, none⟩) 0 0] 48)) := hb.trans (hd.mono (by omega))
  rw [hWz, show w.heap.size + 2 = w.heap.size + 1 + 1 from rfl] at hbx
  have HSt : Hid (St w.heap.size (w.heap.size + 1 + 1) (Wb.alloc (.cells #[.slice (some ⟨w.heap.size + 1, 0, none⟩) 0 0] 48)) (.slice (some ⟨w.heap.size + 1, 0, none⟩) 0 0) []) := hide ⟨hbx, ho.below (OccR.good 0) hd, fun k hk => by
    obtain rfl := Option.some.inj (show some (w.heap.size + 1) = some k from hk)
    omega⟩
  have HE : Hid (ExR D (Wb.alloc (.cells #[.slice (some ⟨w.heap.size + 1, 0, none⟩) 0 0] 48)) x [c0, c1, c2, c3, c4, c5, c6] F) := hide ((ExR.good D).below h hw1 HF.out)
  have HC : Hid (CellsAt (Wb.alloc (.cells #[.slice (some ⟨w.heap.size + 1, 0, none⟩) 0 0] 48)) w.heap.size 0 [c0, c1, c2, c3, c4, c5, c6]) := hide (hC.below hd (by omega))
  have Hw1 := hide hw1
  have Hz := hide hWz
  show Calls _ _ #[.agg #[c0, c1, c2, c3, c4, c5, c6]] w _
  clear h ha hb ho hC hd hbx hw1 hWz Hn7 hbk
  go_enter Try.func18, Try.ntmps18
  go_wp2_with (refine wpList_load_at 52 (.tmp 1) rfl Try.underlying52 rfl Hix.out rfl rfl Hn.out (by first | exact HC.out | (rw [← hWb]; exact HC.out)) ?_; refine hold ?_)
  rw [← hWb]
  clear hWb
  generalize Wb.alloc (.cells #[.slice (some ⟨w.heap.size + 1, 0, none⟩) 0 0] 48) = W1 at HSt HE HC Hw1 ⊢
  refine Hold.go ?_
  go_wp2_with fail
  refine Calls.mono (evn_use (by omega) D x _ F W1 _ [] HE.out HF.out Hw1.out.size HSt.out (by rw [← HU.out]; simpa using hn)) ?_
  rintro en w2 ⟨rfl, v2, hA⟩
  rw [List.nil_append, ← HU.out] at hA
  have hdn := hA.down HSt.out (by omega) Hw1.out.size
  have Hw2 := hide (Hw1.out.trans hdn)
  have hbx := hA.st.box
  have hbl := blk_lt hbx
  have hne := hA.st.ne
  obtain ⟨A, cap, rfl, hlc, hm⟩ := hA.st.own.form
  have hcase : (A = none ∧ U = [] ∧ cap = 0) ∨ ∃ g, A = some ⟨g, 0, none⟩ ∧ RowO w2 g U.toArray ∧ (∀ x ∈ U, x.ok) ∧ w.heap.size ≤ g := by
    have hown := hA.st.own
    match A, hown with
    | none, hown =>
      obtain ⟨h0, _, h2⟩ := hown.none0
      exact .inl ⟨rfl, h0, h2⟩
    | some ⟨g, off, no⟩, hown =>
      have hno : no = none := by
        obtain ⟨⟨cl, ⟨h1, h2⟩, hel⟩, _, _⟩ := hown
        rcases h2 with ⟨h2, _⟩ | ⟨g', cap', cur, hv, _⟩
        · cases h2
        · injection hv with hv1
          injection hv1 with hv1
          injection hv1
      subst hno
      obtain ⟨rfl, h1, h2, h3⟩ := hown.rowO
      exact .inr ⟨g, rfl, h1, h2, h3⟩
  clear hdn HU
  rcases hcase with ⟨rfl, rfl, rfl⟩ | ⟨g, rfl, hrow, hok, hgB⟩
  · have q2 : w2.cell? ⟨w.heap.size + 1 + 1, 0, none⟩ = some (.slice none 0 0) := cell_at (i := 0) hbx (by simp)
    clear hA hbx hne hlc hm hbl
    go_wp2_with fail
    refine Calls.mono (t_Sort0 none 0 w2) ?_
    rintro en w3 ⟨rfl, hw3⟩
    obtain rfl := hw3.symm
    go_wp2_with fail
    refine Calls.mono (t_Compact0 none 0 w2) ?_
    rintro en w3 ⟨rfl, hw3⟩
    obtain rfl := hw3.symm
    go_wp2_with fail
    go_ret
    exact ⟨_, [], rfl, ⟨none, 0, rfl, Nat.le_refl _, by simp [maxLen], .inl ⟨rfl, rfl⟩⟩, Fresh.nil _ _, Hw2.out⟩
  · have q2 : w2.cell? ⟨w.heap.size + 1 + 1, 0, none⟩ = some (.slice (some ⟨g, 0, none⟩) U.length cap) := cell_at (i := 0) hbx (by simp)
    have hgne : g ≠ w.heap.size + 1 + 1 := hne g rfl
    have Hrow := hide hrow
    have Hok := hide hok
    have Hbx := hide hbx
    have Hm := hide hm
    clear hA hbx hne hrow hok hm
    go_wp2_with fail
    refine Calls.mono (t_SortO g cap U w2 Hrow.out hn) ?_
    rintro en w3 ⟨rfl, hg3, hr3⟩
    have hbx3 := (hg3.block (w.heap.size + 1 + 1) hbl (fun e => hgne (Option.some.inj e).symm)).trans Hbx.out
    have q3 : w3.cell? ⟨w.heap.size + 1 + 1, 0, none⟩ = some (.slice (some ⟨g, 0, none⟩) U.length cap) := cell_at (i := 0) hbx3 (by simp)
    have Hg3 := hide hg3
    have hcp := t_Compact g cap (srt U).toArray w3 hr3 (by simp [srt_len]; omega) (by simp [srt_len]; omega) (by have := Hm.out; unfold maxLen at this; omega)
    rw [show (srt U).toArray.size = U.length by simp [srt_len], srt_upto] at hcp
    have Hcp := hide hcp
    clear hg3 hr3 hbx3 hcp
    go_wp2_with fail
    refine Calls.mono Hcp.out ?_
    rintro en w4 ⟨rfl, hg4, cur, hcur, hcc⟩
    have hw4 : Below w.heap.size w w4 := (Hw2.out.grown Hg3.out Hw2.out.size (fun k hk => by obtain rfl := Option.some.inj hk; exact hgB)).grown hg4 (Nat.le_trans Hw2.out.size Hg3.out.size) (fun k hk => by obtain rfl := Option.some.inj hk; exact hgB)
    have Hw4 := hide hw4
    have Hcur := hide hcur
    have Hcc := hide hcc
    clear hw4 hg4 hcur hcc
    go_wp2_with fail
    go_ret
    have hle := sortO_len U
    have hoks : ∀ y ∈ sortO U, y.ok := fun y hy => Hok.out y (((sortO_both U).2 y).1 hy)
    by_cases h0 : sortO U = []
    · refine ⟨_, [], rfl, ⟨some ⟨g, 0, none⟩, cap, rfl, by omega, Hm.out, .inl ⟨h0, rfl⟩⟩, Fresh.nil _ _, Hw4.out⟩
    · refine ⟨_, [g], rfl, ⟨some ⟨g, 0, none⟩, cap, rfl, by omega, Hm.out, .inr ⟨g, 0, [], rfl, blk_lt Hcur.out, rfl, ElR.of_occ hoks fun j y hy => ?_⟩⟩, ⟨List.nodup_cons.2 ⟨by simp, List.nodup_nil⟩, fun k hk => ?_, fun k hk => ?_⟩, Hw4.out⟩
      · obtain ⟨e1, e2⟩ := Hcc.out j y hy
        rw [cell_of_row _ _ _ _ _ _ Hcur.out, cell_of_row _ _ _ _ _ _ Hcur.out, Nat.zero_add]
        exact ⟨e1, e2⟩
      · obtain rfl := List.mem_singleton.1 hk
        exact hgB
      · obtain rfl := List.mem_singleton.1 hk
        exact ⟨cur, _, Hcur.out⟩
end Go.Proofs.Ytaihdnlpdibkoaa
