/- One more element appended to an owned row, with what it leaves as it was. Plain. -/
import Derived.Test.YthifibjkgiggfaaOwn
namespace Go.Proofs.Ythifibjkgiggfaa
set_option maxRecDepth 100000
open Go.RowKit
theorem app_ownS2 {α : Type} {P : Program} {ops : Array Oper} {rest : List Oper} {o : Oper} {a : Act} {Q : Exit → Act → World → Prop} (hgd : o.guard = none) (s x : Operand) (t e : TypeId)
    (ho : o.op = .call { callee := .builtin .append, args := #[s, x], argTypes := #[t, t] }) (ht : P.underlying t = some (.slice e)) {z : Value} {size bytes : Nat}
    (hinfo : (P.info? e).map (fun i => (i.zero, i.size, i.bytes)) = some (some z, size, bytes)) (hzs : z.cells.size = size) (hsz : 0 < size) {R : CR α} (hR : Good size R) (wr W : World) (base : Nat) (v : Value) (xs : List α) (F : List Nat)
    (hown : OwnS size R base e wr xs v F) (hs : a.eval s = v) (hbW : Below wr.heap.size wr W) (y : α) (ys : List Value) (G : List Nat) (hy : R W y ys G) (hG : Fresh wr.heap.size W G) (hy1 : ∀ u ∈ ys, u.oneCell' = true)
    (hx : a.eval x = .slice (some ⟨W.heap.size, 0, none⟩) 1 1)
    (hn : xs.length + 1 ≤ 1099511627776) (hby : (xs.length + 1) * bytes ≤ 140737488355328) (hbase : base ≤ wr.heap.size)
    (h : ∀ v' w', OwnS size R base e w' (xs ++ [y]) v' (F ++ G) → Below base wr w' → (∀ k, k < W.heap.size → v.ownBlock ≠ some k → w'.heap[k]? = W.heap[k]?) → W.heap.size ≤ w'.heap.size → (∀ k, v'.ownBlock = some k → v.ownBlock = some k ∨ W.heap.size ≤ k) → wpList P ops Q rest (a.put o.dst v') w') : wpList P ops Q (o :: rest) a (W.alloc (.cells ys.toArray e)) := by
  obtain ⟨i0, hi, hz0, hz1, hz2⟩ := info_parts hinfo
  have hbA : Below wr.heap.size wr (W.alloc (.cells ys.toArray e)) := hbW.alloc hbW.size _
  have hlen := hR.len hy
  have hFlt := hown.fresh.lt
  have hblk := hown.blk
  obtain ⟨⟨cl, hrow, hel⟩, hf, hoff⟩ := hown
  have hcells : ∀ j u, ys[j]? = some u → (W.alloc (.cells ys.toArray e)).cell? ((⟨W.heap.size, 0, none⟩ : Addr).add j) = some u := fun j u hu => by
    have := CellsAt.new W ys e j u hu
    rw [Nat.zero_add] at this
    unfold Addr.add
    split
    · rename_i h0
      subst h0
      exact this
    · rw [show (0 : Nat) + j = j by omega]
      exact this
  have hsz1 : wr.heap.size ≤ (W.alloc (.cells ys.toArray e)).heap.size := hbA.size
  refine wpList_plain hgd fun K hK => ?_
  obtain ⟨v', w', hr, h2, h3, h4⟩ := run_append_where (P := P) (W.alloc (.cells ys.toArray e)) base t o.type e i0 z size bytes ht hi hz0 hz1 hz2 hzs hsz v xs.length cl (own_below hrow hbA) ⟨W.heap.size, 0, none⟩ 1 1 ys (by omega) hcells hy1 (by unfold maxLen; omega) hby (by omega)
  have hblkA : ∀ k, k < W.heap.size → v.ownBlock ≠ some k → w'.heap[k]? = W.heap[k]? := fun k hk hne => by
    rw [h3.block k (by rw [World.size_alloc]; omega) (fun he => hne he.symm), Below.heap_alloc W _ k hk]
  have hWw : wr.heap.size ≤ W.heap.size := hbW.size
  have hF' : ∀ k ∈ F, w'.heap[k]? = wr.heap[k]? := fun k hk => by
    have hk1 := hFlt k hk
    rw [hblkA k (by omega) (hoff k hk), hbW.block k hk1]
  have hG' : ∀ k ∈ G, w'.heap[k]? = W.heap[k]? := fun k hk => hblkA k (hG.lt k hk) fun he => by
    have h5 := (hblk k he).2
    have h6 := hG.from_ k hk
    omega
  have hzw : W.heap.size ≤ w'.heap.size := Nat.le_trans (by simp) h3.size
  have hres : OwnS size R base e w' (xs ++ [y]) v' (F ++ G) := by
    refine ⟨⟨cl ++ ys, by rw [List.length_append]; exact h2, ElL.snoc (hR.frame hy hG' hzw) (hel.frame hR (by omega) hF')⟩, (hf.keep hF').append (hG.keep hG') hFlt hbase, fun k hk he => ?_⟩
    rcases h4 k he with h5 | h5
    · rcases List.mem_append.1 hk with hk | hk
      · exact hoff k hk h5
      · have := (hblk k h5).2; have := hG.from_ k hk; omega
    · rcases List.mem_append.1 hk with hk | hk
      · have := hFlt k hk; simp at h5; omega
      · have := hG.lt k hk; simp at h5; omega
  have hbl : Below base wr w' := (hbA.mono hbase).grown h3 (by omega) fun k hk => (hblk k hk).1
  have hfin := hK _ _ (h v' w' hres hbl hblkA hzw fun k hk => by
    rcases h4 k hk with h5 | h5
    · exact .inl h5
    · exact .inr (by simp at h5; omega))
  revert hr
  intro hr
  unfold Oper.wp execOp
  simp only [ho, resolve, invoke, builtin, Sem.run_bind, Sem.run_pure, Result.andThen_ok, List.map_toArray, List.map_cons, List.map_nil, hs, hx, hr]
  exact hfin
end Go.Proofs.Ythifibjkgiggfaa
