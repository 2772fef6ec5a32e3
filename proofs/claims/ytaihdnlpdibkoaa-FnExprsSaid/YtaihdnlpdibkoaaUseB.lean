/- The attributes that an expression uses, gathered by a closure that appends to a row of the caller's: the program's walk over all nodes. Conditions: at most 2^20 uses. -/
import Derived.Test.YtaihdnlpdibkoaaUseA
import Derived.Test.YtaihdnlpdibkoaaMade
import Derived.Test.YtaihdnlpdibkoaaExFns
namespace Go.Proofs.Ytaihdnlpdibkoaa
set_option maxRecDepth 100000
open Go.RowKit Go.WideShapes
set_option linter.unusedVariables false

/-- A thing made since appended to a row that the call owned before. -/
theorem app_ownQ {α : Type} {P : Program} {ops : Array Oper} {rest : List Oper} {o : Oper} {a : Act} {Q : Exit → Act → World → Prop} (hgd : o.guard = none) (s x : Operand) (t e : TypeId)
    (ho : o.op = .call { callee := .builtin .append, args := #[s, x], argTypes := #[t, t] }) (ht : P.underlying t = some (.slice e)) {z : Value} {size bytes : Nat}
    (hinfo : (P.info? e).map (fun i => (i.zero, i.size, i.bytes)) = some (some z, size, bytes)) (hzs : z.cells.size = size) (hsz : 0 < size) {R : CR α} (hR : Good size R) (n0 : Nat) (W2 : World) (base : Nat) (v : Value) (xs : List α) (F : List Nat)
    (hown : OwnS size R base e W2 xs v F) (hs : a.eval s = v) (hF : ∀ k ∈ F, k < n0) (hv : ∀ k, v.ownBlock = some k → k < n0) (y : α) (ys : List Value) (G : List Nat) (hy : Made n0 R W2 y ys G) (hy1 : ∀ u ∈ ys, u.oneCell' = true) (g : Nat)
    (hx : a.eval x = .slice (some ⟨g, 0, none⟩) 1 1) (hg : New n0 W2 g (.cells ys.toArray e (0, 0)))
    (hn : xs.length + 1 ≤ 1099511627776) (hby : (xs.length + 1) * bytes ≤ 140737488355328) (hbase : base ≤ n0)
    (h : ∀ v' w', OwnS size R base e w' (xs ++ [y]) v' (F ++ G) → W2.grownBy w' v.ownBlock → (∀ k, v'.ownBlock = some k → v.ownBlock = some k ∨ W2.heap.size ≤ k) → wpList P ops Q rest (a.put o.dst v') w') :
    wpList P ops Q (o :: rest) a W2 := by
  obtain ⟨i0, hi, hz0, hz1, hz2⟩ := info_parts hinfo
  have hlen := hR.len hy.1
  have hgn := hg.1
  have hglt := hg.lt
  have hblk := hown.blk
  obtain ⟨⟨cl, hrow, hel⟩, hf, hoff⟩ := hown
  have hcells : ∀ j u, ys[j]? = some u → W2.cell? ((⟨g, 0, none⟩ : Addr).add j) = some u := fun j u hu => by
    have e1 : (⟨g, 0, none⟩ : Addr).add j = ⟨g, j, none⟩ := by
      unfold Addr.add
      split
      · rename_i h0; subst h0; rfl
      · rw [show (0 : Nat) + j = j by omega]
    rw [e1, cell_of_row _ _ _ _ _ _ hg.2]
    simpa using hu
  refine wpList_plain hgd fun K hK => ?_
  obtain ⟨v', w', hr, h2, h3, h4⟩ := run_append_where (P := P) W2 base t o.type e i0 z size bytes ht hi hz0 hz1 hz2 hzs hsz v xs.length cl hrow ⟨g, 0, none⟩ 1 1 ys (by omega) hcells hy1 (by unfold maxLen; omega) hby (by omega)
  have hblkA : ∀ k, k < W2.heap.size → v.ownBlock ≠ some k → w'.heap[k]? = W2.heap[k]? := fun k hk hne => h3.block k hk (fun he => hne he.symm)
  have hF' : ∀ k ∈ F, w'.heap[k]? = W2.heap[k]? := fun k hk => hblkA k (hf.lt k hk) (hoff k hk)
  have hG' : ∀ k ∈ G, w'.heap[k]? = W2.heap[k]? := fun k hk => hblkA k (hy.2.lt k hk) fun he => by
    have h5 := hv k he
    have h6 := hy.2.from_ k hk
    omega
  have hres : OwnS size R base e w' (xs ++ [y]) v' (F ++ G) := by
    refine ⟨⟨cl ++ ys, by rw [List.length_append]; exact h2, ElL.snoc (hR.frame hy.1 hG' h3.size) (hel.frame hR h3.size hF')⟩, (hf.keep hF').append (hy.2.keep hG') hF hbase, fun k hk he => ?_⟩
    rcases h4 k he with h5 | h5
    · rcases List.mem_append.1 hk with hk | hk
      · exact hoff k hk h5
      · have := hv k h5; have := hy.2.from_ k hk; omega
    · rcases List.mem_append.1 hk with hk | hk
      · have := hf.lt k hk; omega
      · have := hy.2.lt k hk; omega
  have hfin := hK _ _ (h v' w' hres h3 h4)
  revert hr
  intro hr
  unfold Oper.wp execOp
  simp only [ho, resolve, invoke, builtin, Sem.run_bind, Sem.run_pure, Result.andThen_ok, List.map_toArray, List.map_cons, List.map_nil, hs, hx, hr]
  exact hfin
/-- The row stays where its own block stays. -/
theorem OwnS.keep2 {α : Type} {n B : Nat} {R : CR α} {e : TypeId} {w w' : World} {xs : List α} {v : Value} (hR : Good n R) (h : OwnS n R B e w xs v []) (hk : ∀ k, v.ownBlock = some k → w'.heap[k]? = w.heap[k]?) (hz : w.heap.size ≤ w'.heap.size) : OwnS n R B e w' xs v [] := by
  obtain ⟨⟨cl, ⟨h1, h2⟩, hel⟩, h3, h4⟩ := h
  refine ⟨⟨cl, ⟨h1, ?_⟩, hel.frame hR hz (fun k hk => by cases hk)⟩, Fresh.nil _ _, h4⟩
  rcases h2 with h2 | ⟨g, cap, cur, rfl, hg, hb, hn, hm, hc, ht⟩
  · exact .inl h2
  · exact .inr ⟨g, cap, cur, rfl, hg, (hk g rfl).trans hb, hn, hm, hc, ht⟩
/-- The caller's row xs in its box bo. -/
structure St (B bo : Nat) (w : World) (v : Value) (xs : List Occ) : Prop where
  box : w.heap[bo]? = some (.cells #[v] 48 (0, 0))
  own : OwnS 2 (OccR 0) B 65 w xs v []
  ne : ∀ k, v.ownBlock = some k → k ≠ bo
/-- The row grown to xs'; all else stays. -/
structure Acc (B bo : Nat) (w : World) (v : Value) (w' : World) (v' : Value) (xs' : List Occ) : Prop where
  st : St B bo w' v' xs'
  os : w'.os = w.os
  tape : w'.tape = w.tape
  output : w'.output = w.output
  size : w.heap.size ≤ w'.heap.size
  keep : ∀ k, k < w.heap.size → k ≠ bo → v.ownBlock ≠ some k → w'.heap[k]? = w.heap[k]?
  wher : ∀ k, v'.ownBlock = some k → v.ownBlock = some k ∨ w.heap.size ≤ k
section
variable {B bo : Nat} {w w1 w2 : World} {v v1 v2 : Value} {xs xs1 xs2 : List Occ}
theorem St.lt (h : St B bo w v xs) : bo < w.heap.size := blk_lt h.box
theorem St.below (h : St B bo w v xs) (hb : Below w.heap.size w w1) : St B bo w1 v xs := ⟨(hb.block _ h.lt).trans h.box, h.own.below (OccR.good 0) hb, h.ne⟩
theorem Acc.refl (h : St B bo w v xs) : Acc B bo w v w v xs := ⟨h, rfl, rfl, rfl, Nat.le_refl _, fun _ _ _ _ => rfl, fun _ h => .inl h⟩
theorem Acc.trans (h : Acc B bo w v w1 v1 xs1) (g : Acc B bo w1 v1 w2 v2 xs2) : Acc B bo w v w2 v2 xs2 where
  st := g.st
  os := g.os.trans h.os
  tape := g.tape.trans h.tape
  output := g.output.trans h.output
  size := Nat.le_trans h.size g.size
  keep := fun k hk hb hv => (g.keep k (Nat.lt_of_lt_of_le hk h.size) hb (fun e => by
    rcases h.wher k e with e | e
    · exact hv e
    · omega)).trans (h.keep k hk hb hv)
  wher := fun k hk => by
    rcases g.wher k hk with e | e
    · exact h.wher k e
    · exact .inr (Nat.le_trans h.size e)
theorem Acc.pre (hb : Below w.heap.size w w1) (h : Acc B bo w1 v w2 v2 xs2) : Acc B bo w v w2 v2 xs2 where
  st := h.st
  os := h.os.trans hb.os
  tape := h.tape.trans hb.tape
  output := h.output.trans hb.output
  size := Nat.le_trans hb.size h.size
  keep := fun k hk h1 h2 => (h.keep k (Nat.lt_of_lt_of_le hk hb.size) h1 h2).trans (hb.block k hk)
  wher := fun k hk => (h.wher k hk).imp id fun e => Nat.le_trans hb.size e
theorem Acc.post (h : Acc B bo w v w1 v1 xs1) (hb : Below w1.heap.size w1 w2) : Acc B bo w v w2 v1 xs1 where
  st := h.st.below hb
  os := hb.os.trans h.os
  tape := hb.tape.trans h.tape
  output := hb.output.trans h.output
  size := Nat.le_trans h.size hb.size
  keep := fun k hk h1 h2 => (hb.block k (Nat.lt_of_lt_of_le hk h.size)).trans (h.keep k hk h1 h2)
  wher := h.wher
theorem Acc.down (h : Acc B bo w v w1 v1 xs1) (hs : St B bo w v xs) (hbo : B ≤ bo) (hB : B ≤ w.heap.size) : Below B w w1 := ⟨h.os, h.tape, h.output, h.size, fun k hk => h.keep k (by omega) (by omega) (fun e => by have := (hs.own.blk k e).1; omega)⟩
theorem Acc.box (h : Acc B bo w1 v w2 v2 xs2) (hs : St B bo w v xs) {k : Nat} {o : Obj} (hk : w1.heap[k]? = some o) (hn : w.heap.size ≤ k) : w2.heap[k]? = some o :=
  (h.keep k (blk_lt hk) (by have := hs.lt; omega) (fun e => by have := (hs.own.blk k e).2; omega)).trans hk
end
theorem infoOc2 : (Try.prog.info? 65).map (fun i => (i.zero, i.size, i.bytes)) = some (some (.agg #[.int .i64 0, .string ByteArray.empty]), 2, 24) := by kernel_rfl
set_option maxRecDepth 100000 in
set_option maxHeartbeats 2000000 in
/-- The closure: the node's own use appended. -/
theorem clo_use {B bo d : Nat} {v : Value} {xs : List Occ} (e : Ex) (cs : List Value) (F : List Nat) (w : World) (h : ExR d w e cs F) (hs : St B bo w v xs) (hB : B ≤ w.heap.size) (hn : xs.length + (useH e.h).length ≤ 2097152) :
    Calls Try.prog 59 #[.agg cs.toArray, .pointer (some ⟨bo, 0, none⟩)] w fun en w' => en = .returned (.bool true) ∧ ∃ v', Acc B bo w v w' v' (xs ++ useH e.h) := by
  match d, h with
  | d + 1, h =>
  obtain ⟨A, cap, rfl, hok, _, _, _⟩ := ex_form h
  obtain ⟨⟨k, n, p, t, s, m⟩, l⟩ := e
  simp only [Ex.h, Ex.args] at hok hn ⊢
  show Calls _ _ #[.agg #[.int .i64 k, .int .i64 n, .int .i64 p, .int .i64 t, .string s, .string m, .slice A l.length cap], .pointer (some ⟨bo, 0, none⟩)] w _
  clear h
  have hb1 : Below w.heap.size w (w.alloc (.cells #[.int .i64 k, .int .i64 n, .int .i64 p, .int .i64 t, .string s, .string m, .slice A l.length cap] 52)) := (Below.refl _ _).alloc (Nat.le_refl _) _
  by_cases hk : k = 3
  · subst hk
    have hu : useH ⟨3, n, p, t, s, m⟩ = [⟨p, m⟩] := rfl
    rw [hu] at hn ⊢
    simp only [List.length_singleton] at hn
    obtain ⟨A0, cap0, rfl, hlc0, hm0⟩ := hs.own.form
    have hbo := hs.lt
    have HS := hide hs
    have Hok := hide hok
    have H1 := hide (hs.below hb1)
    have Hb1 := hide hb1
    have qb := cell_at (i := 0) (hs.below hb1).box (by simp)
    have hb2 : Below w.heap.size w ((w.alloc (.cells #[.int .i64 3, .int .i64 n, .int .i64 p, .int .i64 t, .string s, .string m, .slice A l.length cap] 52)).alloc (.cells #[.int .i64 p, .string m] 65)) := hb1.alloc (by simp) _
    have H2 := hide (hs.below hb2)
    have Hb2 := hide hb2
    have Hg : Hid (New (w.heap.size + 1) ((w.alloc (.cells #[.int .i64 3, .int .i64 n, .int .i64 p, .int .i64 t, .string s, .string m, .slice A l.length cap] 52)).alloc (.cells #[.int .i64 p, .string m] 65)) (w.heap.size + 1) (.cells #[.int .i64 p, .string m] 65 (0, 0))) := hide ⟨Nat.le_refl _, by
      have := heap_alloc_new (w.alloc (.cells #[.int .i64 3, .int .i64 n, .int .i64 p, .int .i64 t, .string s, .string m, .slice A l.length cap] 52)) (.cells #[.int .i64 p, .string m] 65)
      rw [World.size_alloc] at this
      exact this⟩
    have hy : ∀ W : World, OccR 0 W ⟨p, m⟩ [.int .i64 p, .string m] [] := fun W => ⟨rfl, ⟨hok.pos, hok.name⟩, rfl, rfl, rfl⟩
    have Hy := hide hy
    have Hv : Hid (∀ k, (Value.slice A0 xs.length cap0).ownBlock = some k → k < w.heap.size + 1) := hide fun k hk => Nat.lt_succ_of_lt (hs.own.blk k hk).2
    have hL1 : xs.length + 1 ≤ 1099511627776 := by omega
    have hL2 : (xs.length + 1) * 24 ≤ 140737488355328 := by omega
    have hB1 : B ≤ w.heap.size + 1 := by omega
    clear hs hok hb1 hb2 hy hu
    go_enter Try.func59, Try.ntmps59
    go_wp2_with (at_builtin; refine app_ownQ rfl (.tmp 7) (.tmp 13) 48 65 rfl Try.underlying48 infoOc2 rfl (by decide) (OccR.good 0) (w.heap.size + 1) _ B (.slice A0 xs.length cap0) xs [] H2.out.own rfl (by simp) Hv.out ⟨p, m⟩ [.int .i64 p, .string m] [] ⟨Hy.out _, Fresh.nil _ _⟩ (by simp [Value.oneCell']) (w.heap.size + 1) (by first | rfl | simp [go_sem]) Hg.out hL1 hL2 hB1 ?_; intro v1 w1 hown hgr hwh; refine hold ?_)
    obtain ⟨A1, cap1, hv1, _, _⟩ := hown.form
    rw [show (xs ++ [(⟨p, m⟩ : Occ)]).length = xs.length + 1 from by simp] at hv1
    subst hv1
    have hbx1 : w1.heap[bo]? = some (.cells #[.slice A0 xs.length cap0] 48 (0, 0)) := (hgr.block bo H2.out.lt (fun e => HS.out.ne bo e.symm rfl)).trans H2.out.box
    have q1 := cell_at (i := 0) hbx1 (by simp)
    have y1 := frozen_of_row w1 _ 0 _ _ hbx1
    have Hown := hide hown
    have Hgr := hide hgr
    have Hwh := hide hwh
    have Hbx1 := hide hbx1
    clear hown hgr hwh hbx1
    refine Hold.go ?_
    go_wp2_with fail
    go_ret
    have hz1 := Hgr.out.size
    have hz2 := Hb2.out.size
    have hne1 : ∀ k, (Value.slice A1 (xs.length + 1) cap1).ownBlock = some k → k ≠ bo := fun k hk => by
      rcases Hwh.out k hk with e | e
      · exact HS.out.ne k e
      · have := Hb2.out.size; omega
    refine ⟨rfl, .slice A1 (xs.length + 1) cap1, ⟨heap_setCell_same w1 bo 0 _ _ _ Hbx1.out, OwnS.keep2 (OccR.good 0) Hown.out (fun k hk => heap_setCell_other w1 ⟨bo, 0, none⟩ k _ (hne1 k hk)) (by simp), hne1⟩, ?_, ?_, ?_, ?_, fun k hk h1 h2 => ?_, fun k hk => ?_⟩
    · exact Hgr.out.os.trans Hb2.out.os
    · exact Hgr.out.tape.trans Hb2.out.tape
    · exact Hgr.out.output.trans Hb2.out.output
    · show w.heap.size ≤ (w1.setCell _ _).heap.size
      rw [World.size_setCell]
      omega
    · refine (heap_setCell_other w1 ⟨bo, 0, none⟩ k _ h1).trans ((Hgr.out.block k (by omega) (fun e => h2 e.symm)).trans (Hb2.out.block k hk))
    · rcases Hwh.out k hk with e | e
      · exact .inl e
      · exact .inr (by omega)
  · have hu : useH ⟨k, n, p, t, s, m⟩ = [] := if_neg hk
    rw [hu, List.append_nil]
    have hk3 : (k == 3) = false := beq_eq_false_iff_ne.2 hk
    have HS := hide ((Acc.refl hs).post hb1)
    clear hs hb1 hu hok hn
    go_enter Try.func59, Try.ntmps59
    go_wp2_with fail
    go_ret
    exact ⟨rfl, _, HS.out⟩
end Go.Proofs.Ytaihdnlpdibkoaa
