/- Expressions drawn: valid ones. Conditions: the bytes drawn from can be read. -/
import Derived.Test.YtaihdnlpdibkoaaExF
import Derived.Test.YtaihdnlpdibkoaaValid
import Derived.Test.YtaihdnlpdibkoaaCopyE
namespace Go.Proofs.Ytaihdnlpdibkoaa
set_option maxRecDepth 100000
open Go.RowKit Go.WideShapes
set_option linter.unusedVariables false

/-- One thing appended to a full row: a new row. -/
theorem app_full {α : Type} {P : Program} {ops : Array Oper} {rest : List Oper} {o : Oper} {a : Act} {Q : Exit → Act → World → Prop} (hgd : o.guard = none) (s x : Operand) (t e : TypeId)
    (ho : o.op = .call { callee := .builtin .append, args := #[s, x], argTypes := #[t, t] }) (ht : P.underlying t = some (.slice e)) {z : Value} {size bytes : Nat}
    (hinfo : (P.info? e).map (fun i => (i.zero, i.size, i.bytes)) = some (some z, size, bytes)) (hzs : z.cells.size = size) (hsz : 0 < size) {R : CR α} (hR : Good size R) (W2 : World) (xs : List α) (A : Option Addr) (F : List Nat)
    (hsl : SlR size R W2 xs (.slice A xs.length xs.length) F) (hs : a.eval s = .slice A xs.length xs.length) (y : α) (ys : List Value) (hy : R W2 y ys []) (hy1 : ∀ u ∈ ys, u.oneCell' = true) (g : Nat)
    (hx : a.eval x = .slice (some ⟨g, 0, none⟩) 1 1) (hg : CellsAt W2 g 0 ys) (hn : xs.length + 1 ≤ 1099511627776) (hby : (xs.length + 1) * bytes ≤ 140737488355328)
    (h : ∀ A' cap' F' w', SlR size R w' (xs ++ [y]) (.slice A' (xs.length + 1) cap') F' → (∀ k ∈ F', k ∈ F ∨ W2.heap.size ≤ k) → Below W2.heap.size W2 w' → wpList P ops Q rest (a.put o.dst (.slice A' (xs.length + 1) cap')) w') :
    wpList P ops Q (o :: rest) a W2 := by
  have hlen := hR.len hy
  obtain ⟨i0, hi, hz0, hz1, hz2⟩ := info_parts hinfo
  have hcells : ∀ j u, ys[j]? = some u → W2.cell? ((⟨g, 0, none⟩ : Addr).add j) = some u := fun j u hu => by
    have e1 : (⟨g, 0, none⟩ : Addr).add j = ⟨g, j, none⟩ := by
      unfold Addr.add
      split
      · rename_i h0; subst h0; rfl
      · rw [show (0 : Nat) + j = j by omega]
    rw [e1]
    have := hg j u hu
    rwa [Nat.zero_add] at this
  refine wpList_plain hgd fun K hK => ?_
  obtain ⟨v', w', hr, hfin⟩ : ∃ v' w', (Builtin.append_ #[t, t] o.type #[.slice A xs.length xs.length, .slice (some ⟨g, 0, none⟩) 1 1]).run P W2 = .ok v' w' ∧ wpList P ops Q rest (a.put o.dst v') w' := by
    match A, hsl with
    | none, hsl =>
      have hx0 : xs = [] := by
        obtain ⟨A', cap', hv, _, _, hc⟩ := hsl
        rcases hc with ⟨h0, _⟩ | ⟨b, off, F', h2, _⟩
        · exact h0
        · injection hv with hv
          rw [h2] at hv
          cases hv
      subst hx0
      obtain ⟨v', w', hr, h2, h3, h4⟩ := run_append_where (P := P) W2 W2.heap.size t o.type e i0 z size bytes ht hi hz0 hz1 hz2 hzs hsz (.slice none 0 0) 0 [] (World.ownsRow_nil _ _ _ _) ⟨g, 0, none⟩ 1 1 ys (by omega) hcells hy1 (by unfold maxLen; omega) (by simpa using hby) (Nat.le_refl _)
      have hbl : Below W2.heap.size W2 w' := (Below.refl _ _).grown h3 (Nat.le_refl _) (fun k hk => by cases hk)
      have hO : OwnS size R W2.heap.size e w' [y] v' [] := ⟨⟨ys, by simpa using h2, ⟨ys, [], [], [], by simp, rfl, hR.below hy hbl (by simp), rfl, rfl⟩⟩, Fresh.nil _ _, by simp⟩
      obtain ⟨A', cap', rfl, _, _⟩ := hO.form
      obtain ⟨G, hG, hf⟩ := hO.slr hR
      exact ⟨_, w', hr, h A' cap' G w' hG (fun k hk => .inr (hf.from_ k hk)) hbl⟩
    | some ad, hsl =>
      obtain ⟨cl, Ft, hcl, hold, hel, hFt⟩ : ∃ (cl : List Value) (Ft : List Nat), cl.length = xs.length * size ∧ (∀ j u, cl[j]? = some u → W2.cell? (ad.add j) = some u) ∧ ElL R W2 xs cl Ft ∧ ∀ k ∈ Ft, k ∈ F := by
        obtain ⟨A', cap', hv, _, _, hc⟩ := hsl
        rcases hc with ⟨rfl, _⟩ | ⟨b, off, F', h2, hb, rfl, he⟩
        · exact ⟨[], [], by simp, (fun j u hu => by cases hu), ⟨rfl, rfl⟩, by simp⟩
        · injection hv with hv
          rw [h2] at hv
          injection hv with hv
          subst hv
          obtain ⟨cl, g1, g2, g3⟩ := he.toL hR
          refine ⟨cl, F', g1, fun j u hu => ?_, g3, fun k hk => by simp [hk]⟩
          have e1 : (⟨b, off, none⟩ : Addr).add j = ⟨b, off + j, none⟩ := by
            unfold Addr.add
            split
            · rename_i h0; subst h0; rfl
            · rfl
          rw [e1]
          exact g2 j u hu
      have hlt : ∀ k ∈ Ft, k < W2.heap.size := fun k hk => hsl.lt hR k (hFt k hk)
      have hr := run_append_grow (P := P) (w := W2) t o.type e i0 z ht hi hz0 ad xs.length xs.length cl (by rw [hz1]; exact hcl) hold ⟨g, 0, none⟩ 1 1 ys (by rw [hz1]; omega) hcells (by omega) (by omega) (growslice_fits (by omega) (by rw [hz2]; exact hby))
      refine ⟨_, _, hr, h _ _ (W2.heap.size :: Ft) _ ⟨_, _, by rw [List.length_append]; rfl, by rw [List.length_append]; exact grownCap_ge _ _ _ _, grownCap_le_maxLen _ _ _ _ (by unfold maxLen; omega), .inr ⟨W2.heap.size, 0, Ft, rfl, by rw [World.size_alloc]; exact Nat.lt_succ_self _, rfl, ?_⟩⟩ (fun k hk => ?_) ?_⟩
      · have hbl : Below W2.heap.size W2 (W2.drew.alloc (.cells (cl.toArray ++ ys.toArray ++ Builtin.zeroCells z.cells (grownCap W2 (xs.length + 1) xs.length e - (xs.length + 1))) e)) := (Below.refl _ _).drew.alloc (Nat.le_refl _) _
        have hel2 := (hel.frame hR hbl.size (fun k hk => hbl.block k (hlt k hk))).snoc (hR.below hy hbl (by simp))
        rw [List.append_nil] at hel2
        refine hel2.toR hR fun j u hu => ?_
        have hb := heap_alloc_new W2.drew (.cells (cl.toArray ++ ys.toArray ++ Builtin.zeroCells z.cells (grownCap W2 (xs.length + 1) xs.length e - (xs.length + 1))) e)
        change (W2.drew.alloc _).heap[W2.heap.size]? = _ at hb
        rw [cell_of_row _ _ _ _ _ _ hb, Nat.zero_add]
        rw [Array.getElem?_append_left (by have := (List.getElem?_eq_some_iff.1 hu).1; simpa using this)]
        simpa using hu
      · rcases List.mem_cons.1 hk with rfl | hk
        · exact .inr (Nat.le_refl _)
        · exact .inl (hFt k hk)
      · exact (Below.refl _ _).drew.alloc (Nat.le_refl _) _
  have hfin2 := hK _ _ hfin
  revert hr
  intro hr
  unfold Oper.wp execOp
  simp only [ho, resolve, invoke, builtin, Sem.run_bind, Sem.run_pure, Result.andThen_ok, List.map_toArray, List.map_cons, List.map_nil, hs, hx, hr]
  exact hfin2
theorem s_l4Free (b : Nat) : ∀ n, n ≤ 100 → FrP b n
  | 0, _ => fun w hc => s_free0 hc
  | n + 1, h => fun w hc => s_freeS (n := n) (by omega) (s_l4Free b n (by omega)) hc
theorem kF_4 {n : Nat} (h : n ≤ 4) : kF n ≤ 9184 := by
  have : n = 0 ∨ n = 1 ∨ n = 2 ∨ n = 3 ∨ n = 4 := by omega
  rcases this with rfl | rfl | rfl | rfl | rfl <;> decide
theorem DrX.up {n : Nat} {K : Int} {b : Nat} {w w' : World} {en : Ending} (h : DrX n K b w en w') (n' : Nat) (K' : Int) (hn : n ≤ n') (hK : K ≤ K') : DrX n' K' b w en w' := by
  obtain ⟨e, A, G, h1, h2, h3, h4, h5, h6⟩ := h
  exact ⟨e, A, G, h1, h2.up n' hn, h3, by rw [bulk_up n w' e _ G h2 n' hn]; omega, h5, h6⟩
set_option maxRecDepth 100000 in
set_option maxHeartbeats 4000000 in
theorem s_l4Draw {b : Nat} {w : World} (hc : Cur w b) : Calls Try.prog 96 #[.pointer (some ⟨b, 0, none⟩)] w (DrX 5 9184 b w) := by
  have hlt := hc.lt
  have Hi : Hid ((Try.prog.info? 52).map (·.size) = some 7) := hide (by kernel_rfl)
  have hb0 : Below w.heap.size w (w.alloc (.cells #[.int .i64 0, .int .i64 0, .int .i64 0, .int .i64 0, .string ⟨#[]⟩, .string ⟨#[]⟩, .slice none 0 0] 52)) := (Below.refl _ _).alloc (Nat.le_refl _) _
  have Hz0 := hide (heap_alloc_new w (.cells #[.int .i64 0, .int .i64 0, .int .i64 0, .int .i64 0, .string ⟨#[]⟩, .string ⟨#[]⟩, .slice none 0 0] 52))
  have Hc0 := hide (hc.below hb0)
  have Hg0 := hide (grown_of (b := b) hb0)
  have hsz0 : w.heap.size + 1 ≤ (w.alloc (.cells #[.int .i64 0, .int .i64 0, .int .i64 0, .int .i64 0, .string ⟨#[]⟩, .string ⟨#[]⟩, .slice none 0 0] 52)).heap.size := by simp
  clear hc hb0
  go_enter Try.func96, Try.ntmps96
  go_wp2_with fail
  generalize w.alloc (.cells #[.int .i64 0, .int .i64 0, .int .i64 0, .int .i64 0, .string ⟨#[]⟩, .string ⟨#[]⟩, .slice none 0 0] 52) = W0 at Hz0 Hc0 Hg0 hsz0 ⊢
  refine (s_l1Below Hc0.out 5 (by omega) (by omega)).mono ?_
  rintro en W1 ⟨x, rfl, hx0, hx1, hc_, hg_⟩
  have Hz1 : Hid (W1.heap[w.heap.size]? = some (.cells #[.int .i64 0, .int .i64 0, .int .i64 0, .int .i64 0, .string ⟨#[]⟩, .string ⟨#[]⟩, .slice none 0 0] 52 (0, 0))) := hide ((hg_.block _ (blk_lt Hz0.out) (by intro e; injection e; omega)).trans Hz0.out)
  have Hg1 := hide (grown_trans2 Hg0.out hg_)
  have Hs1 : Hid (W0.grownBy W1 (some b)) := hide hg_
  have Hc1 := hide hc_
  have hsz1 : w.heap.size + 1 ≤ W1.heap.size := Nat.le_trans hsz0 hg_.size
  clear hc_ hg_
  obtain ⟨n, rfl⟩ : ∃ n : Nat, x = n := ⟨x.toNat, by omega⟩
  go_wp2_with fail
  rw [Int.add_comm 1 (n : Int)]
  have hfr := s_l4Free b n (by omega) W1 Hc1.out
  refine hfr.mono ?_
  rintro en W2 hd
  obtain ⟨e, A, G, rfl, hR, hf, hbk, hc_, hg_⟩ := hd.up 5 9184 (by omega) (kF_4 (by omega))
  have Hz2 : Hid (W2.heap[w.heap.size]? = some (.cells #[.int .i64 0, .int .i64 0, .int .i64 0, .int .i64 0, .string ⟨#[]⟩, .string ⟨#[]⟩, .slice none 0 0] 52 (0, 0))) := hide ((hg_.block _ (blk_lt Hz1.out) (by intro e; injection e; omega)).trans Hz1.out)
  have Hg2 := hide (grown_trans2 Hg1.out hg_)
  have Hc2 := hide hc_
  have hsz2 : w.heap.size + 1 ≤ W2.heap.size := Nat.le_trans hsz1 hg_.size
  obtain ⟨⟨h0, h1, h2, h3, h4, h5⟩, l⟩ := e
  simp only [Ex.h, Ex.args, ExH.cells] at hR ⊢
  have hb3 : Below W2.heap.size W2 (W2.alloc (.cells #[.int .i64 h0, .int .i64 h1, .int .i64 h2, .int .i64 h3, .string h4, .string h5, .slice A l.length l.length] 52)) := (Below.refl _ _).alloc (Nat.le_refl _) _
  have hbx := heap_alloc_new W2 (.cells #[.int .i64 h0, .int .i64 h1, .int .i64 h2, .int .i64 h3, .string h4, .string h5, .slice A l.length l.length] 52)
  have HR3 := hide ((ExR.good 5).below hR hb3 hf.lt)
  have Hf3 := hide (hf.below hb3)
  have Hbx := hide hbx
  have Hc3 := hide (Hc2.out.below hb3)
  have Hg3 := hide (mk_base Hg2.out hb3 Hg2.out.size)
  have Hz3 := hide (blk_below Hz2.out hb3 (blk_lt Hz2.out))
  have hs3 := hb3.size
  clear hR hf hb3 hbx hc_ hg_ hd hfr
  go_wp2_with fail
  generalize W2.alloc (.cells #[.int .i64 h0, .int .i64 h1, .int .i64 h2, .int .i64 h3, .string h4, .string h5, .slice A l.length l.length] 52) = W3 at HR3 Hf3 Hbx Hc3 Hg3 Hz3 hs3 ⊢
  refine (s_IsValidExpr 5 _ _ G W3 HR3.out (by omega)).mono ?_
  rintro en W4 ⟨rfl, hb4⟩
  have HR4 := hide ((ExR.good 5).below HR3.out hb4 Hf3.out.lt)
  have Hf4 := hide (Hf3.out.below hb4)
  have hbx4 := blk_below Hbx.out hb4 (blk_lt Hbx.out)
  have Hc4 := hide (Hc3.out.below hb4)
  have Hg4 := hide (mk_base Hg3.out hb4 Hg3.out.size)
  have Hz4 := hide (blk_below Hz3.out hb4 (blk_lt Hz3.out))
  have hs4 := hb4.size
  clear hb4
  cases validE 5 (.mk ⟨h0, h1, h2, h3, h4, h5⟩ l)
  · go_wp2_with (refine wpList_store_at 52 (.tmp 2) (.tmp 12) (cs := [.int .i64 2, .int .i64 0, .int .i64 0, .int .i64 0, .string ⟨#[]⟩, .string ⟨#[]⟩, .slice none 0 0]) rfl Hi.out rfl rfl rfl rfl (by simp [Value.oneCell']) Hz4.out (by decide) ?_; intro WF hP; have HP := hide hP; clear hP)
    obtain ⟨x0, x1, x2, x3, x4, x5, x6⟩ := HP.out.cellsAt.seven0
    have hbF : Below w.heap.size W4 WF := HP.out.below (Nat.le_refl _)
    have hcF : Cur WF b := Hc4.out.baseU hbF hlt
    have hgF : w.grownBy WF (some b) := mk_base Hg4.out hbF (Nat.le_refl _)
    exact bodyPost_ret (v := .agg #[.int .i64 2, .int .i64 0, .int .i64 0, .int .i64 0, .string ⟨#[]⟩, .string ⟨#[]⟩, .slice none 0 0]) (by simp [results, Try.results96, go_sem, x0, x1, x2, x3, x4, x5, x6]) rfl (DrX.leaf ⟨2, 0, 0, 0, ⟨#[]⟩, ⟨#[]⟩⟩ (exh_ok ⟨by omega, by omega⟩ ⟨by omega, by omega⟩ ⟨by omega, by omega⟩ ⟨by omega, by omega⟩ (by decide) (by decide)) (by show ((0 : Nat) : Int) + ((0 : Nat) : Int) ≤ 9184; decide) hcF hgF)
  · have q0 := cell_at (i := 0) hbx4 (by simp)
    have q1 := cell_at (i := 1) hbx4 (by simp)
    have q2 := cell_at (i := 2) hbx4 (by simp)
    have q3 := cell_at (i := 3) hbx4 (by simp)
    have q4 := cell_at (i := 4) hbx4 (by simp)
    have q5 := cell_at (i := 5) hbx4 (by simp)
    have q6 := cell_at (i := 6) hbx4 (by simp)
    go_wp2_with (refine wpList_store_at 52 (.tmp 2) (.tmp 13) (cs := [.int .i64 h0, .int .i64 h1, .int .i64 h2, .int .i64 h3, .string h4, .string h5, .slice A l.length l.length]) rfl Hi.out rfl rfl rfl rfl (by simp [Value.oneCell']) Hz4.out (by decide) ?_; intro WF hP; have HP := hide hP; clear hP)
    obtain ⟨x0, x1, x2, x3, x4, x5, x6⟩ := HP.out.cellsAt.seven0
    have hbF : Below w.heap.size W4 WF := HP.out.below (Nat.le_refl _)
    have hcF : Cur WF b := Hc4.out.baseU hbF hlt
    have hgF : w.grownBy WF (some b) := mk_base Hg4.out hbF (Nat.le_refl _)
    obtain ⟨hRF, hfF⟩ := ExR.putX HR4.out Hf4.out HP.out (by omega)
    exact bodyPost_ret (v := .agg #[.int .i64 h0, .int .i64 h1, .int .i64 h2, .int .i64 h3, .string h4, .string h5, .slice A l.length l.length]) (by simp [results, Try.results96, go_sem, x0, x1, x2, x3, x4, x5, x6]) rfl (⟨.mk ⟨h0, h1, h2, h3, h4, h5⟩ l, A, G, rfl, hRF, hfF.mono (by omega), hbk, hcF, hgF⟩)
end Go.Proofs.Ytaihdnlpdibkoaa
