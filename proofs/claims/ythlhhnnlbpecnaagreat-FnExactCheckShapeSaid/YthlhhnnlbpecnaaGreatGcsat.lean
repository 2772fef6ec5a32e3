/- Several texts of one proof in one file: One more element appended to an owned row inside a region that draws its order; a row beside a store into an older block. Plain: no program. A whole slice of plain things appended to an empty row inside a region that draws its order, other memory made between. Plain: no program. Things made inside a region that draws its order, and one of them appended to a row that the call owns. Plain: no program. Conditions: each theorem names its own. -/
import Derived.Test.YthlhhnnlbpecnaaGreatGcsaj
import Derived.Test.YthlhhnnlbpecnaaGreatGcsah
import Derived.Test.YthlhhnnlbpecnaaGreatGcsas

/- One more element appended to an owned row inside a region that draws its order; a row beside a store into an older block. Plain: no program. -/
namespace Go.Proofs.YthlhhnnlbpecnaaGreat
set_option linter.unusedSimpArgs false
set_option linter.unusedVariables false
set_option maxRecDepth 100000
open Go.RowKit
set_option linter.unusedVariables false

/-- The row stays where the blocks from its base on stay. -/
theorem OwnS.same {α : Type} {n B : Nat} {R : CR α} {e : TypeId} {w w' : World} {xs : List α} {v : Value} {F : List Nat} (hR : Good n R) (h : OwnS n R B e w xs v F) (hk : ∀ k, B ≤ k → k < w.heap.size → w'.heap[k]? = w.heap[k]?) (hz : w.heap.size ≤ w'.heap.size) : OwnS n R B e w' xs v F := by
  obtain ⟨⟨cl, ⟨h1, h2⟩, hel⟩, h3, h4⟩ := h
  have hF : ∀ k ∈ F, w'.heap[k]? = w.heap[k]? := fun k hkF => hk k (h3.from_ k hkF) (h3.lt k hkF)
  refine ⟨⟨cl, ⟨h1, ?_⟩, hel.frame hR hz hF⟩, h3.keep hF, h4⟩
  rcases h2 with h2 | ⟨g, cap, cur, rfl, hg, hb, hn, hm, hc, ht⟩
  · exact .inl h2
  · exact .inr ⟨g, cap, cur, rfl, hg, (hk g hg (blk_lt hb)).trans hb, hn, hm, hc, ht⟩
theorem step_ownS {α : Type} {P : Program} {ops : Array Oper} {o : Oper} {a : Act} {K : Act → World → Prop} {Q : Exit → Act → World → Prop} {E : Prop} (hgd : o.guard = none) (s x : Operand) (t e : TypeId)
    (ho : o.op = .call { callee := .builtin .append, args := #[s, x], argTypes := #[t, t] }) (ht : P.underlying t = some (.slice e)) {z : Value} {size bytes : Nat}
    (hinfo : (P.info? e).map (fun i => (i.zero, i.size, i.bytes)) = some (some z, size, bytes)) (hzs : z.cells.size = size) (hsz : 0 < size) {R : CR α} (hR : Good size R) (wr W W2 : World) (base : Nat) (v : Value) (xs : List α) (F : List Nat)
    (hown : OwnS size R base e wr xs v F) (hs : a.eval s = v) (hbW : Below wr.heap.size wr W) (y : α) (ys : List Value) (G : List Nat) (hy : R W y ys G) (hG : Fresh wr.heap.size W G) (hy1 : ∀ u ∈ ys, u.oneCell' = true)
    (hx : a.eval x = .slice (some ⟨W.heap.size, 0, none⟩) 1 1) (hW2 : Below (W.heap.size + 1) (W.alloc (.cells ys.toArray e)) W2)
    (hn : xs.length + 1 ≤ 1099511627776) (hby : (xs.length + 1) * bytes ≤ 140737488355328) (hbase : base ≤ wr.heap.size)
    (hK : ∀ v' w', OwnS size R base e w' (xs ++ [y]) v' (F ++ G) → Below base wr w' → (∀ k, k < W2.heap.size → v.ownBlock ≠ some k → w'.heap[k]? = W2.heap[k]?) → W2.heap.size ≤ w'.heap.size → (∀ k, v'.ownBlock = some k → v.ownBlock = some k ∨ W2.heap.size ≤ k) → K (a.put o.dst v') w') :
    if Region.wanted o (yielded ops a.tmps) = true then Oper.wp P o a W2 K Q else E := by
  have hw : Region.wanted o (yielded ops a.tmps) = true := by simp [Region.wanted, hgd]
  rw [if_pos hw]
  obtain ⟨i0, hi, hz0, hz1, hz2⟩ := info_parts hinfo
  have hWw : wr.heap.size ≤ W.heap.size := hbW.size
  have hsA : (W.alloc (.cells ys.toArray e)).heap.size = W.heap.size + 1 := World.size_alloc _ _
  have hz2' : W.heap.size + 1 ≤ W2.heap.size := by have := hW2.size; omega
  have hbA : Below wr.heap.size wr W2 := (hbW.alloc hbW.size _).trans (hW2.mono (by omega))
  have hlen := hR.len hy
  have hFlt := hown.fresh.lt
  have hblk := hown.blk
  obtain ⟨⟨cl, hrow, hel⟩, hf, hoff⟩ := hown
  have hcells : ∀ j u, ys[j]? = some u → W2.cell? ((⟨W.heap.size, 0, none⟩ : Addr).add j) = some u := fun j u hu => by
    have := CellsAt.new W ys e j u hu
    rw [Nat.zero_add] at this
    have e1 : (⟨W.heap.size, 0, none⟩ : Addr).add j = ⟨W.heap.size, j, none⟩ := by
      unfold Addr.add
      split
      · rename_i h0; subst h0; rfl
      · rw [show (0 : Nat) + j = j by omega]
    rw [e1]
    exact (hW2.cell (p := ⟨W.heap.size, j, none⟩) (Nat.lt_succ_self _)).trans this
  obtain ⟨v', w', hr, h2, h3, h4⟩ := run_append_where (P := P) W2 base t o.type e i0 z size bytes ht hi hz0 hz1 hz2 hzs hsz v xs.length cl (own_below hrow hbA) ⟨W.heap.size, 0, none⟩ 1 1 ys (by omega) hcells hy1 (by unfold maxLen; omega) hby (by omega)
  have hblkA : ∀ k, k < W2.heap.size → v.ownBlock ≠ some k → w'.heap[k]? = W2.heap[k]? := fun k hk hne => h3.block k hk (fun he => hne he.symm)
  have hF' : ∀ k ∈ F, w'.heap[k]? = wr.heap[k]? := fun k hk => by
    have hk1 := hFlt k hk
    rw [hblkA k (by omega) (hoff k hk), hbA.block k hk1]
  have hG' : ∀ k ∈ G, w'.heap[k]? = W.heap[k]? := fun k hk => by
    have h7 := hG.lt k hk
    rw [hblkA k (by omega) fun he => by
      have h5 := (hblk k he).2
      have h6 := hG.from_ k hk
      omega]
    rw [hW2.block k (by omega), Below.heap_alloc W _ k h7]
  have hzw : W.heap.size ≤ w'.heap.size := by have := h3.size; omega
  have hres : OwnS size R base e w' (xs ++ [y]) v' (F ++ G) := by
    refine ⟨⟨cl ++ ys, by rw [List.length_append]; exact h2, ElL.snoc (hR.frame hy hG' hzw) (hel.frame hR (by omega) hF')⟩, (hf.keep hF').append (hG.keep hG') hFlt hbase, fun k hk he => ?_⟩
    rcases h4 k he with h5 | h5
    · rcases List.mem_append.1 hk with hk | hk
      · exact hoff k hk h5
      · have := (hblk k h5).2; have := hG.from_ k hk; omega
    · rcases List.mem_append.1 hk with hk | hk
      · have := hFlt k hk; omega
      · have := hG.lt k hk; omega
  have hbl : Below base wr w' := (hbA.mono hbase).grown h3 (by omega) fun k hk => (hblk k hk).1
  have hfin := hK v' w' hres hbl hblkA h3.size h4
  revert hr
  intro hr
  unfold Oper.wp execOp
  simp only [ho, resolve, invoke, builtin, Sem.run_bind, Sem.run_pure, Result.andThen_ok, List.map_toArray, List.map_cons, List.map_nil, hs, hx, hr]
  exact hfin
end Go.Proofs.YthlhhnnlbpecnaaGreat

/- A whole slice of plain things appended to an empty row inside a region that draws its order, other memory made between. Plain: no program. -/
namespace Go.Proofs.YthlhhnnlbpecnaaGreat
set_option linter.unusedSimpArgs false
set_option linter.unusedVariables false
set_option maxRecDepth 100000
open Go.RowKit
set_option linter.unusedVariables false

theorem OwnS.slr1 {α : Type} {n B : Nat} {R : CR α} {e : TypeId} {w : World} {xs : List α} {v : Value} (hR : Good n R) (h : OwnS n R B e w xs v []) : ∃ G, SlR n R w xs v G ∧ Fresh B w G ∧ ∀ k ∈ G, v.ownBlock = some k := by
  obtain ⟨⟨cl, ⟨h1, h2⟩, hel⟩, h3, h4⟩ := h
  rcases h2 with ⟨rfl, h0⟩ | ⟨g, cap, cur, rfl, hg, hb, hn, hm, hc, ht⟩
  · obtain rfl := List.length_eq_zero_iff.1 h0
    exact ⟨[], ⟨none, 0, rfl, Nat.le_refl _, by simp [maxLen], .inl ⟨rfl, rfl⟩⟩, Fresh.nil _ _, by simp⟩
  · cases xs with
    | nil => exact ⟨[], ⟨_, cap, rfl, hn, hm, .inl ⟨rfl, rfl⟩⟩, Fresh.nil _ _, by simp⟩
    | cons x r =>
      have hcat : CellsAt w g 0 cl := fun j u hu => by
        rw [cell_of_row _ _ _ _ _ _ hb, Nat.zero_add]
        rw [← ht, List.getElem?_take] at hu
        split at hu
        · simpa using hu
        · cases hu
      refine ⟨[g], ⟨_, cap, rfl, hn, hm, .inr ⟨g, 0, [], rfl, blk_lt hb, rfl, hel.toR hR hcat⟩⟩, ⟨List.nodup_cons.2 ⟨by simp, List.nodup_nil⟩, fun b hb' => ?_, fun b hb' => ?_⟩, fun k hk => ?_⟩
      · obtain rfl := List.mem_singleton.1 hb'
        exact hg
      · obtain rfl := List.mem_singleton.1 hb'
        exact ⟨cur, e, hb⟩
      · obtain rfl := List.mem_singleton.1 hk
        rfl
theorem step_all2 {α : Type} {P : Program} {ops : Array Oper} {o : Oper} {a : Act} {K : Act → World → Prop} {Q : Exit → Act → World → Prop} {E : Prop} (hgd : o.guard = none) (s x : Operand) (t e : TypeId)
    (ho : o.op = .call { callee := .builtin .append, args := #[s, x], argTypes := #[t, t] }) (ht : P.underlying t = some (.slice e)) {z : Value} {size bytes : Nat}
    (hinfo : (P.info? e).map (fun i => (i.zero, i.size, i.bytes)) = some (some z, size, bytes)) (hzs : z.cells.size = size) (hsz : 0 < size) {R : CR α} (hR : Good size R) (hp : ∀ w x cs F, R w x cs F → F = []) (h1 : ∀ w x cs F, R w x cs F → ∀ v ∈ cs, v.oneCell' = true)
    (W W2 : World) (xs : List α) (A : Option Addr) (cap : Nat) (F : List Nat) (hsl : SlR size R W xs (.slice A xs.length cap) F) (hW2 : Below (W.heap.size + 1) (W.alloc (.cells #[] e)) W2) (hs : a.eval s = .slice (some ⟨W.heap.size, 0, none⟩) 0 0) (hx : a.eval x = .slice A xs.length cap)
    (hn : xs.length ≤ 1099511627776) (hby : xs.length * bytes ≤ 140737488355328)
    (h : ∀ v' w', OwnS size R W.heap.size e w' xs v' [] → Below W.heap.size W w' → (∀ k, k < W2.heap.size → k ≠ W.heap.size → w'.heap[k]? = W2.heap[k]?) → W2.heap.size ≤ w'.heap.size → (∀ k, v'.ownBlock = some k → k = W.heap.size ∨ W2.heap.size ≤ k) → K (a.put o.dst v') w') :
    if Region.wanted o (yielded ops a.tmps) = true then Oper.wp P o a W2 K Q else E := by
  have hw : Region.wanted o (yielded ops a.tmps) = true := by simp [Region.wanted, hgd]
  rw [if_pos hw]
  obtain ⟨i0, hi, hz0, hz1, hz2⟩ := info_parts hinfo
  have hmade0 : (W.alloc (.cells #[] e)).ownsRow W.heap.size e size (.slice (some ⟨W.heap.size, 0, none⟩) 0 0) 0 [] := World.ownsRow_made W #[] 0 (Nat.le_refl _) (by simp [maxLen]) (by simp)
  have hsA : (W.alloc (.cells #[] e)).heap.size = W.heap.size + 1 := World.size_alloc _ _
  have hmade : W2.ownsRow W.heap.size e size (.slice (some ⟨W.heap.size, 0, none⟩) 0 0) 0 [] := own_below hmade0 (by rw [hsA]; exact hW2)
  obtain ⟨A', cap', hv, hl, hm, hc⟩ := hsl
  injection hv with hA' _ hcap
  subst hA' hcap
  have hbd : Below W.heap.size W W2 := ((Below.refl W.heap.size W).alloc (Nat.le_refl _) _).trans (hW2.mono (by omega))
  have hz2' := hW2.size
  match A, hc with
  | none, hc =>
    have hx0 : xs = [] := by
      rcases hc with ⟨h0, _⟩ | ⟨b, off, F', h2, _⟩
      · exact h0
      · cases h2
    subst hx0
    have hcap0 : a.eval x = .slice none 0 cap := hx
    have hrun : (Builtin.append_ #[t, t] o.type #[.slice (some ⟨W.heap.size, 0, none⟩) 0 0, .slice none 0 cap]).run P W2 = .ok (.slice (some ⟨W.heap.size, 0, none⟩) 0 0) W2 := by
      simp [Builtin.append_, run_underlying ht, sizeOf, typeInfo, hi, Builtin.lenOf, Builtin.firstCells, loadCells, loadCellsFrom, storeCells]
    have hO : OwnS size R W.heap.size e W2 ([] : List α) (.slice (some ⟨W.heap.size, 0, none⟩) 0 0) [] := ⟨⟨[], hmade, rfl, rfl⟩, Fresh.nil _ _, by simp⟩
    have hfin := h _ _ hO hbd (fun k _ _ => rfl) (Nat.le_refl _) (fun k hk => by simp only [Value.ownBlock, Option.some.injEq] at hk; exact .inl hk.symm)
    unfold Oper.wp
    simp [execOp, ho, resolve, invoke, builtin, hs, hx, hrun, Result.andThen]
    exact hfin
  | some ad, hc =>
    obtain ⟨cl, hcl, hcells, hel⟩ : ∃ cl, cl.length = xs.length * size ∧ (∀ j u, cl[j]? = some u → W2.cell? (ad.add j) = some u) ∧ ElL R W xs cl [] := by
      rcases hc with ⟨rfl, _⟩ | ⟨b, off, F', h2, hb, rfl, he⟩
      · exact ⟨[], by simp, (fun j u hu => by cases hu), rfl, rfl⟩
      · injection h2 with h2
        subst h2
        obtain ⟨cl, g1, g2, g3⟩ := he.toL hR
        have hF := g3.plain hp
        subst hF
        refine ⟨cl, g1, fun j u hu => ?_, g3⟩
        have e1 : (⟨b, off, none⟩ : Addr).add j = ⟨b, off + j, none⟩ := by
          unfold Addr.add
          split
          · rename_i h0; subst h0; rfl
          · rfl
        rw [e1]
        exact (hbd.cell (p := ⟨b, off + j, none⟩) hb).trans (g2 j u hu)
    obtain ⟨v', w', hr, h2, h3, h4⟩ := run_append_where (P := P) W2 W.heap.size t o.type e i0 z size bytes ht hi hz0 hz1 hz2 hzs hsz (.slice (some ⟨W.heap.size, 0, none⟩) 0 0) 0 [] hmade ad xs.length cap cl hcl hcells (hel.one h1) (by unfold maxLen; omega) (by rw [Nat.zero_add]; exact hby) (by omega)
    rw [Nat.zero_add, List.nil_append] at h2
    have hW : Below W.heap.size W w' := hbd.grown h3 (by omega) (fun k hk => by simp only [Value.ownBlock, Option.some.injEq] at hk; omega)
    have hO : OwnS size R W.heap.size e w' xs v' [] := ⟨⟨cl, h2, hel.frame hR hW.size (by simp)⟩, Fresh.nil _ _, by simp⟩
    have hfin := h v' w' hO hW (fun k hk hne => h3.block k hk (fun he => by simp only [Value.ownBlock, Option.some.injEq] at he; omega)) h3.size (fun k hk => by
      rcases h4 k hk with h5 | h5
      · simp only [Value.ownBlock, Option.some.injEq] at h5
        exact .inl h5.symm
      · exact .inr h5)
    revert hr
    intro hr
    unfold Oper.wp execOp
    simp only [ho, resolve, invoke, builtin, Sem.run_bind, Sem.run_pure, Result.andThen_ok, List.map_toArray, List.map_cons, List.map_nil, hs, hx, hr]
    exact hfin
theorem below_set6 {B g : Nat} {W0 w1 : World} {u0 u1 u2 u3 u4 u5 : Value} (h : Below B W0 w1) (hg : B ≤ g) : Below B W0 ((((((w1.setCell ⟨g, 0, none⟩ u0).setCell ⟨g, 1, none⟩ u1).setCell ⟨g, 2, none⟩ u2).setCell ⟨g, 3, none⟩ u3).setCell ⟨g, 4, none⟩ u4).setCell ⟨g, 5, none⟩ u5) :=
  Below.setCell (p := ⟨g, 5, none⟩) (Below.setCell (p := ⟨g, 4, none⟩) (Below.setCell (p := ⟨g, 3, none⟩) (Below.setCell (p := ⟨g, 2, none⟩) (Below.setCell (p := ⟨g, 1, none⟩) (Below.setCell (p := ⟨g, 0, none⟩) h hg u0) hg u1) hg u2) hg u3) hg u4) hg u5
theorem put_set6 {b : Nat} {w : World} {cs : Array Value} {t : TypeId} (u0 u1 u2 u3 u4 u5 : Value) (h : w.heap[b]? = some (.cells cs t (0, 0))) (hz : 6 ≤ cs.size) : Put w b 0 [u0, u1, u2, u3, u4, u5] cs t ((((((w.setCell ⟨b, 0, none⟩ u0).setCell ⟨b, 1, none⟩ u1).setCell ⟨b, 2, none⟩ u2).setCell ⟨b, 3, none⟩ u3).setCell ⟨b, 4, none⟩ u4).setCell ⟨b, 5, none⟩ u5) :=
  put_spec [u0, u1, u2, u3, u4, u5] 0 w cs h (by simpa using hz)
/-- What is known behind a box's store, of the box and of a row beside it. -/
theorem box_end {α : Type} {n : Nat} {R : CR α} (hR : Good n R) {B b : Nat} {W0 w1 wx : World} {us : List Value} {Z : Array Value} {T : TypeId} {xs : List α} {v : Value} {G : List Nat} (hP : Put w1 b 0 us Z T wx) (hb : B ≤ b) (hB2 : Below B W0 w1) (h1 : SlR n R w1 xs v G) (h2 : Fresh B w1 G) (h3 : b ∉ G) :
    (∃ old : Array Value, old.size = Z.size ∧ wx.heap[b]? = some (.cells old T (0, 0))) ∧ CellsAt wx b 0 us ∧ SlR n R wx xs v G ∧ Fresh B wx G ∧ Below B W0 wx := by
  obtain ⟨old, ho, hs, _, _⟩ := hP.blk
  have hfar : ∀ k ∈ G, wx.heap[k]? = w1.heap[k]? := fun k hk => hP.far k (fun e => h3 (e ▸ hk))
  exact ⟨⟨old, hs, ho⟩, hP.cellsAt, h1.frame hR hfar (by rw [hP.size]; exact Nat.le_refl _), h2.keep hfar, hB2.trans (hP.below hb)⟩
/-- A store into a box, inside such a region. -/
theorem step_store {P : Program} {ops : Array Oper} {o : Oper} {a : Act} {w : World} {K : Act → World → Prop} {Q : Exit → Act → World → Prop} {E : Prop} (hgd : o.guard = none) (ty : TypeId) (x y : Operand) (ho : o.op = .store ty x y)
    {n : Nat} {cs : List Value} {v : Value} (hv : v.cells = cs.toArray) (hi : (P.info? ty).map (·.size) = some n) (hy : a.eval y = v) {g off : Nat} (hx : a.eval x = .pointer (some ⟨g, off, none⟩)) (hn : cs.length = n) (h1 : ∀ v ∈ cs, v.oneCell' = true)
    {old : Array Value} {t : TypeId} (hg : w.heap[g]? = some (.cells old t (0, 0))) (hfit : off + n ≤ old.size)
    (h : ∀ w', Put w g off cs old t w' → K (a.put o.dst undef) w') : if Region.wanted o (yielded ops a.tmps) = true then Oper.wp P o a w K Q else E := by
  have hw : Region.wanted o (yielded ops a.tmps) = true := by simp [Region.wanted, hgd]
  rw [if_pos hw]
  subst hn
  have hst := run_storeCells_at P g off t cs 0 old w hg (by simpa using hfit) h1
  simp only [Nat.add_zero] at hst
  have hr : (storeVar ty ⟨g, off, none⟩ v).run P w = .ok () (w.setRow g (old.toList.take off ++ cs ++ old.toList.drop (off + cs.length)).toArray) := by
    cases hq : P.info? ty with
    | none => simp [hq] at hi
    | some i =>
      have hs : i.size = cs.length := by simpa [hq] using hi
      simp [storeVar, sizeOf, typeInfo, hq, hv, hs, hst]
  unfold Oper.wp execOp
  simp only [ho, hx, hy, Instr.storeAt, Instr.sureAddr, Sem.run_bind, Sem.run_pure, Result.andThen_ok, hr]
  exact h _ (Put.of_row hg hfit)
end Go.Proofs.YthlhhnnlbpecnaaGreat

/- Things made inside a region that draws its order, and one of them appended to a row that the call owns. Plain: no program. -/
namespace Go.Proofs.YthlhhnnlbpecnaaGreat
set_option linter.unusedSimpArgs false
set_option linter.unusedVariables false
set_option maxRecDepth 100000
open Go.RowKit
set_option linter.unusedVariables false

theorem mk_base {w w1 w2 : World} {b B : Nat} (h : w.grownBy w1 (some b)) (hg : Below B w1 w2) (hB : w.heap.size ≤ B) : w.grownBy w2 (some b) :=
  ⟨hg.os.trans h.os, hg.tape.trans h.tape, hg.output.trans h.output, Nat.le_trans h.size hg.size, fun k hk hne => (hg.block k (by omega)).trans (h.block k hk hne)⟩
theorem mk_cell {w w1 : World} {b k : Nat} {u : Value} (h : w.grownBy w1 (some b)) : w.grownBy (w1.setCell ⟨b, k, none⟩ u) (some b) :=
  ⟨h.os, h.tape, h.output, Nat.le_trans h.size (by simp), fun q hq hne => (heap_setCell_other _ _ _ _ (fun e => hne (by rw [e]))).trans (h.block q hq hne)⟩
theorem updL_all {l : Nat → Bool} {k z : Nat} (h : l z = true → ∀ i, i < z → l i = true) (hk : k ≠ z) : updL l k z = true → ∀ i, i < z → updL l k i = true := fun h1 i hi => updL_up (h (updL_ne h1 (fun e => hk e.symm)) i hi)
/-- A block known cell by cell. -/
theorem whole_of {w : World} {b : Nat} {old : Array Value} {cs : List Value} {T : TypeId} (h : w.heap[b]? = some (.cells old T (0, 0))) (hs : old.size = cs.length) (hc : CellsAt w b 0 cs) : w.heap[b]? = some (.cells cs.toArray T (0, 0)) := by
  have e : old = cs.toArray := by
    apply Array.ext
    · rw [hs]; simp
    · intro i h1 h2
      have hi : i < cs.length := by simpa using h2
      have h3 := hc i cs[i] (List.getElem?_eq_getElem hi)
      rw [cell_of_row _ _ _ _ _ _ h, Nat.zero_add, Array.getElem?_eq_getElem h1] at h3
      simpa using Option.some.inj h3
  rw [h, e]
section
variable {α : Type} {n n0 : Nat} {R : CR α} {W W' : World} {X : α} {x : Value}
/-- Cells made since n0 that hold X. -/
def Made (n0 : Nat) (R : CR α) (W : World) (X : α) (us : List Value) (G : List Nat) : Prop := R W X us G ∧ Fresh n0 W G
theorem Made.below (hR : Good n R) {us : List Value} {G : List Nat} (h : Made n0 R W X us G) (hb : Below W.heap.size W W') : Made n0 R W' X us G := ⟨hR.below h.1 hb h.2.lt, h.2.below hb⟩
def AgM (n0 : Nat) (R : CR α) (W : World) (X : α) (x : Value) : Prop := ∃ us G, x = .agg (List.toArray us) ∧ Made n0 R W X us G
def SlM (n0 : Nat) (R : CR α) (T : TypeId) (W : World) (X : α) (x : Value) : Prop := ∃ g us G, x = .slice (some ⟨g, 0, none⟩) 1 1 ∧ New n0 W g (.cells (List.toArray us) T (0, 0)) ∧ Made n0 R W X us G
theorem AgM.mono (hR : Good n R) (s : Below W.heap.size W W') (h : AgM n0 R W X x) : AgM n0 R W' X x := h.imp fun _ h => h.imp fun _ h => ⟨h.1, h.2.below hR s⟩
theorem SlM.mono {T : TypeId} (hR : Good n R) (s : Below W.heap.size W W') (h : SlM n0 R T W X x) : SlM n0 R T W' X x := h.imp fun _ h => h.imp fun _ h => h.imp fun _ h => ⟨h.1, Stay.below s _ _ h.2.1, h.2.2.below hR s⟩
theorem AgM.monoC {l : Nat → Bool} {k z : Nat} (hR : Good n R) (s : Below W.heap.size W W') (h : l z = false → AgM n0 R W X x) : updL l k z = false → AgM n0 R W' X x := fun h1 => (h (updL_f h1)).mono hR s
theorem SlM.monoC {T : TypeId} {l : Nat → Bool} {k z : Nat} (hR : Good n R) (s : Below W.heap.size W W') (h : l z = false → SlM n0 R T W X x) : updL l k z = false → SlM n0 R T W' X x := fun h1 => (h (updL_f h1)).mono hR s
/-- Two of them, in blocks of their own. -/
def Two (n0 : Nat) (R : CR α) (W : World) (X Y : α) (x y : Value) : Prop := ∃ us G us' G', x = .agg (List.toArray us) ∧ y = .agg (List.toArray us') ∧ Made n0 R W X us G ∧ Made n0 R W Y us' G' ∧ ∀ k ∈ G, k ∉ G'
theorem Two.mono {Y : α} {y : Value} (hR : Good n R) (s : Below W.heap.size W W') (h : Two n0 R W X Y x y) : Two n0 R W' X Y x y := by
  obtain ⟨us, G, us', G', h1, h2, h3, h4, h5⟩ := h
  exact ⟨us, G, us', G', h1, h2, h3.below hR s, h4.below hR s, h5⟩
theorem Two.left {Y : α} {y : Value} {us : List Value} {G : List Nat} (hR : Good n R) (hy : AgM n0 R W Y y) (hb : Below W.heap.size W W') (hx : R W' X us G) (hG : Fresh W.heap.size W' G) (hn : n0 ≤ W.heap.size) : Two n0 R W' X Y (.agg (List.toArray us)) y := by
  obtain ⟨us', G', rfl, h⟩ := hy
  exact ⟨us, G, us', G', rfl, rfl, ⟨hx, hG.mono hn⟩, h.below hR hb, fun k h1 h2 => by have := hG.from_ k h1; have := h.2.lt k h2; omega⟩
theorem Two.right {Y : α} {us' : List Value} {G' : List Nat} (hR : Good n R) (hx : AgM n0 R W X x) (hb : Below W.heap.size W W') (hy : R W' Y us' G') (hG : Fresh W.heap.size W' G') (hn : n0 ≤ W.heap.size) : Two n0 R W' X Y x (.agg (List.toArray us')) := by
  obtain ⟨us, G, rfl, h⟩ := hx
  exact ⟨us, G, us', G', rfl, rfl, h.below hR hb, ⟨hy, hG.mono hn⟩, fun k h1 h2 => by have := hG.from_ k h2; have := h.2.lt k h1; omega⟩
/-- A copied row made since; such a row and a new block beside it. -/
def ClM (n0 n : Nat) (R : CR α) (W : World) (xs : List α) (x : Value) : Prop := ∃ A cap G, x = .slice A xs.length cap ∧ SlR n R W xs x G ∧ Fresh n0 W G
def ClB (n0 n : Nat) (R : CR α) (W : World) (xs : List α) (zs : Array Value) (T : TypeId) (x y : Value) : Prop := ∃ A cap G b, x = .slice A xs.length cap ∧ y = .pointer (some ⟨b, 0, none⟩) ∧ SlR n R W xs x G ∧ Fresh n0 W G ∧ New n0 W b (.cells zs T (0, 0)) ∧ b ∉ G
theorem SlR.belowF {xs : List α} {G : List Nat} (hR : Good n R) (h : SlR n R W xs x G) (hf : Fresh n0 W G) (s : Below W.heap.size W W') : SlR n R W' xs x G := h.below hR s hf.lt
theorem ClM.mono {xs : List α} (hR : Good n R) (s : Below W.heap.size W W') (h : ClM n0 n R W xs x) : ClM n0 n R W' xs x := by
  obtain ⟨A, cap, G, h1, h2, h3⟩ := h
  exact ⟨A, cap, G, h1, h2.belowF hR h3 s, h3.below s⟩
theorem PtN.monoB {cs : Array Value} {T : TypeId} {off : Nat} (s : Below W.heap.size W W') (h : PtN n0 W x cs T off) : PtN n0 W' x cs T off := PtN.mono (Stay.below s) h
theorem ClB.mono {xs : List α} {zs : Array Value} {T : TypeId} {y : Value} (hR : Good n R) (s : Below W.heap.size W W') (h : ClB n0 n R W xs zs T x y) : ClB n0 n R W' xs zs T x y := by
  obtain ⟨A, cap, G, b, h1, h2, h3, h4, h5, h6⟩ := h
  exact ⟨A, cap, G, b, h1, h2, h3.belowF hR h4 s, h4.below s, Stay.below s _ _ h5, h6⟩
theorem ClB.left {xs : List α} {zs : Array Value} {T : TypeId} {y : Value} {A : Option Addr} {cap : Nat} {G : List Nat} (hR : Good n R) (hy : PtN n0 W y zs T 0) (hb : Below W.heap.size W W') (hx : SlR n R W' xs (.slice A xs.length cap) G) (hG : Fresh W.heap.size W' G) (hn : n0 ≤ W.heap.size) : ClB n0 n R W' xs zs T (.slice A xs.length cap) y := by
  obtain ⟨b, rfl, h⟩ := hy
  exact ⟨A, cap, G, b, rfl, rfl, hx, hG.mono hn, Stay.below hb _ _ h, fun hk => by have := hG.from_ b hk; have := h.lt; omega⟩
theorem ClB.right {xs : List α} {zs : Array Value} {T : TypeId} (hR : Good n R) (hx : ClM n0 n R W xs x) (hn : n0 ≤ W.heap.size) : ClB n0 n R (W.alloc (.cells zs T)) xs zs T x (.pointer (some ⟨W.heap.size, 0, none⟩)) := by
  obtain ⟨A, cap, G, h1, h2, h3⟩ := hx
  have s : Below W.heap.size W (W.alloc (.cells zs T)) := (Below.refl _ _).alloc (Nat.le_refl _) _
  exact ⟨A, cap, G, _, h1, rfl, h2.belowF hR h3 s, h3.below s, New.made hn _ _, fun hk => Nat.lt_irrefl _ (h3.lt _ hk)⟩
end
/-- A thing made since appended to a row that the call owned before. -/
theorem step_ownQ {α : Type} {P : Program} {ops : Array Oper} {o : Oper} {a : Act} {K : Act → World → Prop} {Q : Exit → Act → World → Prop} {E : Prop} (hgd : o.guard = none) (s x : Operand) (t e : TypeId)
    (ho : o.op = .call { callee := .builtin .append, args := #[s, x], argTypes := #[t, t] }) (ht : P.underlying t = some (.slice e)) {z : Value} {size bytes : Nat}
    (hinfo : (P.info? e).map (fun i => (i.zero, i.size, i.bytes)) = some (some z, size, bytes)) (hzs : z.cells.size = size) (hsz : 0 < size) {R : CR α} (hR : Good size R) (n0 : Nat) (W2 : World) (base : Nat) (v : Value) (xs : List α) (F : List Nat)
    (hown : OwnS size R base e W2 xs v F) (hs : a.eval s = v) (hF : ∀ k ∈ F, k < n0) (hv : ∀ k, v.ownBlock = some k → k < n0) (y : α) (ys : List Value) (G : List Nat) (hy : Made n0 R W2 y ys G) (hy1 : ∀ u ∈ ys, u.oneCell' = true) (g : Nat)
    (hx : a.eval x = .slice (some ⟨g, 0, none⟩) 1 1) (hg : New n0 W2 g (.cells ys.toArray e (0, 0)))
    (hn : xs.length + 1 ≤ 1099511627776) (hby : (xs.length + 1) * bytes ≤ 140737488355328) (hbase : base ≤ n0)
    (hK : ∀ v' w', OwnS size R base e w' (xs ++ [y]) v' (F ++ G) → Below base W2 w' → W2.grownBy w' v.ownBlock → K (a.put o.dst v') w') :
    if Region.wanted o (yielded ops a.tmps) = true then Oper.wp P o a W2 K Q else E := by
  have hw : Region.wanted o (yielded ops a.tmps) = true := by simp [Region.wanted, hgd]
  rw [if_pos hw]
  obtain ⟨i0, hi, hz0, hz1, hz2⟩ := info_parts hinfo
  have hlen := hR.len hy.1
  have hgn := hg.1
  have hglt := hg.lt
  have hblk := hown.blk
  obtain ⟨⟨cl, hrow, hel⟩, hf, hoff⟩ := hown
  have hcells : ∀ j u, ys[j]? = some u → W2.cell? ((⟨g, 0, none⟩ : Addr).add j) = some u := fun j u hu => by
    have e1 : (⟨g, 0, none⟩ : Addr).add j = ⟨g, j, none⟩ := by
      unfold Addr.add
      split
      · rename_i h0; subst h0; rfl
      · rw [show (0 : Nat) + j = j by omega]
    rw [e1, cell_of_row _ _ _ _ _ _ hg.2]
    simpa using hu
  obtain ⟨v', w', hr, h2, h3, h4⟩ := run_append_where (P := P) W2 base t o.type e i0 z size bytes ht hi hz0 hz1 hz2 hzs hsz v xs.length cl hrow ⟨g, 0, none⟩ 1 1 ys (by omega) hcells hy1 (by unfold maxLen; omega) hby (by omega)
  have hblkA : ∀ k, k < W2.heap.size → v.ownBlock ≠ some k → w'.heap[k]? = W2.heap[k]? := fun k hk hne => h3.block k hk (fun he => hne he.symm)
  have hF' : ∀ k ∈ F, w'.heap[k]? = W2.heap[k]? := fun k hk => hblkA k (hf.lt k hk) (hoff k hk)
  have hG' : ∀ k ∈ G, w'.heap[k]? = W2.heap[k]? := fun k hk => hblkA k (hy.2.lt k hk) fun he => by
    have h5 := hv k he
    have h6 := hy.2.from_ k hk
    omega
  have hres : OwnS size R base e w' (xs ++ [y]) v' (F ++ G) := by
    refine ⟨⟨cl ++ ys, by rw [List.length_append]; exact h2, ElL.snoc (hR.frame hy.1 hG' h3.size) (hel.frame hR h3.size hF')⟩, (hf.keep hF').append (hy.2.keep hG') hF hbase, fun k hk he => ?_⟩
    rcases h4 k he with h5 | h5
    · rcases List.mem_append.1 hk with hk | hk
      · exact hoff k hk h5
      · have := hv k h5; have := hy.2.from_ k hk; omega
    · rcases List.mem_append.1 hk with hk | hk
      · have := hf.lt k hk; omega
      · have := hy.2.lt k hk; omega
  have hbl : Below base W2 w' := (Below.refl base W2).grown h3 (by omega) fun k hk => (hblk k hk).1
  have hfin := hK v' w' hres hbl h3
  revert hr
  intro hr
  unfold Oper.wp execOp
  simp only [ho, resolve, invoke, builtin, Sem.run_bind, Sem.run_pure, Result.andThen_ok, List.map_toArray, List.map_cons, List.map_nil, hs, hx, hr]
  exact hfin
end Go.Proofs.YthlhhnnlbpecnaaGreat
