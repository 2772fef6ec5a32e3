/- One more element appended to an owned row inside a region that draws its order; a row beside a store into an older block. Plain: no program. -/
import Derived.Test.YtaihdnlpdibkoaaOwn
namespace Go.Proofs.Ytaihdnlpdibkoaa
set_option maxRecDepth 100000
open Go.RowKit
set_option linter.unusedVariables false

/-- The row stays where the blocks from its base on stay. -/
theorem OwnS.same {α : Type} {n B : Nat} {R : CR α} {e : TypeId} {w w' : World} {xs : List α} {v : Value} {F : List Nat} (hR : Good n R) (h : OwnS n R B e w xs v F) (hk : ∀ k, B ≤ k → k < w.heap.size → w'.heap[k]? = w.heap[k]?) (hz : w.heap.size ≤ w'.heap.size) : OwnS n R B e w' xs v F := by
  obtain ⟨⟨cl, ⟨h1, h2⟩, hel⟩, h3, h4⟩ := h
  have hF : ∀ k ∈ F, w'.heap[k]? = w.heap[k]? := fun k hkF => hk k (h3.from_ k hkF) (h3.lt k hkF)
  refine ⟨⟨cl, ⟨h1, ?_⟩, hel.frame hR hz hF⟩, h3.keep hF, h4⟩
  rcases h2 with h2 | ⟨g, cap, cur, rfl, hg, hb, hn, hm, hc, ht⟩
  · exact .inl h2
  · exact .inr ⟨g, cap, cur, rfl, hg, (hk g hg (blk_lt hb)).trans hb, hn, hm, hc, ht⟩
theorem step_ownS {α : Type} {P : Program} {ops : Array Oper} {o : Oper} {a : Act} {K : Act → World → Prop} {Q : Exit → Act → World → Prop} {E : Prop} (hgd : o.guard = none) (s x : Operand) (t e : TypeId)
    (ho : o.op = .call { callee := .builtin .append, args := #[s, x], argTypes := #[t, t] }) (ht : P.underlying t = some (.slice e)) {z : Value} {size bytes : Nat}
    (hinfo : (P.info? e).map (fun i => (i.zero, i.size, i.bytes)) = some (some z, size, bytes)) (hzs : z.cells.size = size) (hsz : 0 < size) {R : CR α} (hR : Good size R) (wr W W2 : World) (base : Nat) (v : Value) (xs : List α) (F : List Nat)
    (hown : OwnS size R base e wr xs v F) (hs : a.eval s = v) (hbW : Below wr.heap.size wr W) (y : α) (ys : List Value) (G : List Nat) (hy : R W y ys G) (hG : Fresh wr.heap.size W G) (hy1 : ∀ u ∈ ys, u.oneCell' = true)
    (hx : a.eval x = .slice (some ⟨W.heap.size, 0, none⟩) 1 1) (hW2 : Below (W.heap.size + 1) (W.alloc (.cells ys.toArray e)) W2)
    (hn : xs.length + 1 ≤ 1099511627776) (hby : (xs.length + 1) * bytes ≤ 140737488355328) (hbase : base ≤ wr.heap.size)
    (hK : ∀ v' w', OwnS size R base e w' (xs ++ [y]) v' (F ++ G) → Below base wr w' → (∀ k, k < W2.heap.size → v.ownBlock ≠ some k → w'.heap[k]? = W2.heap[k]?) → W2.heap.size ≤ w'.heap.size → (∀ k, v'.ownBlock = some k → v.ownBlock = some k ∨ W2.heap.size ≤ k) → K (a.put o.dst v') w') :
    if Region.wanted o (yielded ops a.tmps) = true then Oper.wp P o a W2 K Q else E := by
  have hw : Region.wanted o (yielded ops a.tmps) = true := by simp [Region.wanted, hgd]
  rw [if_pos hw]
  obtain ⟨i0, hi, hz0, hz1, hz2⟩ := info_parts hinfo
  have hWw : wr.heap.size ≤ W.heap.size := hbW.size
  have hsA : (W.alloc (.cells ys.toArray e)).heap.size = W.heap.size + 1 := World.size_alloc _ _
  have hz2' : W.heap.size + 1 ≤ W2.heap.size := by have := hW2.size; omega
  have hbA : Below wr.heap.size wr W2 := (hbW.alloc hbW.size _).trans (hW2.mono (by omega))
  have hlen := hR.len hy
  have hFlt := hown.fresh.lt
  have hblk := hown.blk
  obtain ⟨⟨cl, hrow, hel⟩, hf, hoff⟩ := hown
  have hcells : ∀ j u, ys[j]? = some u → W2.cell? ((⟨W.heap.size, 0, none⟩ : Addr).add j) = some u := fun j u hu => by
    have := CellsAt.new W ys e j u hu
    rw [Nat.zero_add] at this
    have e1 : (⟨W.heap.size, 0, none⟩ : Addr).add j = ⟨W.heap.size, j, none⟩ := by
      unfold Addr.add
      split
      · rename_i h0; subst h0; rfl
      · rw [show (0 : Nat) + j = j by omega]
    rw [e1]
    exact (hW2.cell (p := ⟨W.heap.size, j, none⟩) (Nat.lt_succ_self _)).trans this
  obtain ⟨v', w', hr, h2, h3, h4⟩ := run_append_where (P := P) W2 base t o.type e i0 z size bytes ht hi hz0 hz1 hz2 hzs hsz v xs.length cl (own_below hrow hbA) ⟨W.heap.size, 0, none⟩ 1 1 ys (by omega) hcells hy1 (by unfold maxLen; omega) hby (by omega)
  have hblkA : ∀ k, k < W2.heap.size → v.ownBlock ≠ some k → w'.heap[k]? = W2.heap[k]? := fun k hk hne => h3.block k hk (fun he => hne he.symm)
  have hF' : ∀ k ∈ F, w'.heap[k]? = wr.heap[k]? := fun k hk => by
    have hk1 := hFlt k hk
    rw [hblkA k (by omega) (hoff k hk), hbA.block k hk1]
  have hG' : ∀ k ∈ G, w'.heap[k]? = W.heap[k]? := fun k hk => by
    have h7 := hG.lt k hk
    rw [hblkA k (by omega) fun he => by
      have h5 := (hblk k he).2
      have h6 := hG.from_ k hk
      omega]
    rw [hW2.block k (by omega), Below.heap_alloc W _ k h7]
  have hzw : W.heap.size ≤ w'.heap.size := by have := h3.size; omega
  have hres : OwnS size R base e w' (xs ++ [y]) v' (F ++ G) := by
    refine ⟨⟨cl ++ ys, by rw [List.length_append]; exact h2, ElL.snoc (hR.frame hy hG' hzw) (hel.frame hR (by omega) hF')⟩, (hf.keep hF').append (hG.keep hG') hFlt hbase, fun k hk he => ?_⟩
    rcases h4 k he with h5 | h5
    · rcases List.mem_append.1 hk with hk | hk
      · exact hoff k hk h5
      · have := (hblk k h5).2; have := hG.from_ k hk; omega
    · rcases List.mem_append.1 hk with hk | hk
      · have := hFlt k hk; omega
      · have := hG.lt k hk; omega
  have hbl : Below base wr w' := (hbA.mono hbase).grown h3 (by omega) fun k hk => (hblk k hk).1
  have hfin := hK v' w' hres hbl hblkA h3.size h4
  revert hr
  intro hr
  unfold Oper.wp execOp
  simp only [ho, resolve, invoke, builtin, Sem.run_bind, Sem.run_pure, Result.andThen_ok, List.map_toArray, List.map_cons, List.map_nil, hs, hx, hr]
  exact hfin
end Go.Proofs.Ytaihdnlpdibkoaa
