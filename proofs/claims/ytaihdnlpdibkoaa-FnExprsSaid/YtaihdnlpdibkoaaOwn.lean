/- Rows that the call owns, of things of several cells that own blocks of their own: one appended, the row told as a slice. Plain: no program. -/
import Derived.Test.YtaihdnlpdibkoaaApp
namespace Go.Proofs.Ytaihdnlpdibkoaa
set_option maxRecDepth 100000
open Go.RowKit

/-- The elements of a row by their cells, one behind another. -/
def ElL {α : Type} (R : CR α) (w : World) : List α → List Value → List Nat → Prop
  | [], cl, F => cl = [] ∧ F = []
  | x :: r, cl, F => ∃ cs cr F1 F2, cl = cs ++ cr ∧ F = F1 ++ F2 ∧ R w x cs F1 ∧ ElL R w r cr F2
section
variable {α : Type} {n : Nat} {R : CR α}
theorem ElL.frame (hR : Good n R) {w w' : World} (hz : w.heap.size ≤ w'.heap.size) : ∀ {xs : List α} {cl : List Value} {F : List Nat}, ElL R w xs cl F → (∀ k ∈ F, w'.heap[k]? = w.heap[k]?) → ElL R w' xs cl F
  | [], _, _, h, _ => h
  | x :: r, cl, F, h, hk => by
    obtain ⟨cs, cr, F1, F2, rfl, rfl, h1, h2⟩ := h
    exact ⟨cs, cr, F1, F2, rfl, rfl, hR.frame h1 (fun k hk' => hk k (by simp [hk'])) hz, ElL.frame hR hz h2 (fun k hk' => hk k (by simp [hk']))⟩
theorem ElL.snoc {w : World} {x : α} {cs : List Value} {G : List Nat} (hx : R w x cs G) : ∀ {xs : List α} {cl : List Value} {F : List Nat}, ElL R w xs cl F → ElL R w (xs ++ [x]) (cl ++ cs) (F ++ G)
  | [], cl, F, h => by
    obtain ⟨rfl, rfl⟩ := h
    exact ⟨cs, [], G, [], by simp, by simp, hx, rfl, rfl⟩
  | y :: r, cl, F, h => by
    obtain ⟨c1, cr, F1, F2, rfl, rfl, h1, h2⟩ := h
    exact ⟨c1, cr ++ cs, F1, F2 ++ G, by simp, by simp, h1, ElL.snoc hx h2⟩
theorem ElL.toR (hR : Good n R) {w : World} {b : Nat} : ∀ {xs : List α} {cl : List Value} {F : List Nat} {off : Nat}, ElL R w xs cl F → CellsAt w b off cl → ElR n R w b off xs F
  | [], cl, F, off, h, _ => h.2
  | x :: r, cl, F, off, h, hc => by
    obtain ⟨cs, cr, F1, F2, rfl, rfl, h1, h2⟩ := h
    have hl := hR.len h1
    refine ⟨cs, F1, F2, rfl, fun j u hu => hc j u ?_, h1, ElL.toR hR h2 fun j u hu => ?_⟩
    · rw [List.getElem?_append_left (List.getElem?_eq_some_iff.1 hu).1]; exact hu
    · have := hc (n + j) u (by rw [List.getElem?_append_right (by omega), show n + j - cs.length = j by omega]; exact hu)
      rwa [show off + n + j = off + (n + j) by omega]
end
/-- A row of the call's own that holds xs; F: the blocks that its elements own. -/
structure OwnS {α : Type} (n : Nat) (R : CR α) (B : Nat) (e : TypeId) (w : World) (xs : List α) (v : Value) (F : List Nat) : Prop where
  row : ∃ cl, w.ownsRow B e n v xs.length cl ∧ ElL R w xs cl F
  fresh : Fresh B w F
  off : ∀ k ∈ F, v.ownBlock ≠ some k
section
variable {α : Type} {n B : Nat} {R : CR α} {e : TypeId} {w w' : World} {xs : List α} {v : Value} {F : List Nat}
theorem OwnS.nil (w : World) : OwnS n R B e w [] (.slice none 0 0) [] := ⟨⟨[], World.ownsRow_nil _ _ _ _, rfl, rfl⟩, Fresh.nil _ _, by simp⟩
theorem OwnS.made (w : World) (hB : B ≤ w.heap.size) : OwnS n R B e (w.alloc (.cells #[] e)) [] (.slice (some ⟨w.heap.size, 0, none⟩) 0 0) [] :=
  ⟨⟨[], World.ownsRow_made w #[] 0 hB (by simp [maxLen]) (by simp), rfl, rfl⟩, Fresh.nil _ _, by simp⟩
theorem OwnS.blk (h : OwnS n R B e w xs v F) : ∀ k, v.ownBlock = some k → B ≤ k ∧ k < w.heap.size := by
  obtain ⟨cl, h1, _⟩ := h.row
  exact h1.lt
theorem OwnS.below (hR : Good n R) (h : OwnS n R B e w xs v F) (hb : Below w.heap.size w w') : OwnS n R B e w' xs v F := by
  obtain ⟨⟨cl, h1, h2⟩, h3, h4⟩ := h
  exact ⟨⟨cl, own_below h1 hb, h2.frame hR hb.size fun k hk => hb.block k (h3.lt k hk)⟩, h3.below hb, h4⟩
theorem OwnS.form (h : OwnS n R B e w xs v F) : ∃ A cap, v = .slice A xs.length cap ∧ xs.length ≤ cap ∧ cap ≤ maxLen := by
  obtain ⟨⟨cl, ⟨_, h2⟩, _⟩, _, _⟩ := h
  rcases h2 with ⟨rfl, h0⟩ | ⟨g, cap, cur, rfl, hg, hb, hn, hm, hc, ht⟩
  · exact ⟨none, 0, by rw [h0], by omega, by simp [maxLen]⟩
  · exact ⟨_, cap, rfl, hn, hm⟩
/-- The row told as a slice. -/
theorem OwnS.slr (hR : Good n R) (h : OwnS n R B e w xs v F) : ∃ G, SlR n R w xs v G ∧ Fresh B w G := by
  obtain ⟨⟨cl, ⟨h1, h2⟩, hel⟩, h3, h4⟩ := h
  rcases h2 with ⟨rfl, h0⟩ | ⟨g, cap, cur, rfl, hg, hb, hn, hm, hc, ht⟩
  · obtain rfl := List.length_eq_zero_iff.1 h0
    exact ⟨[], ⟨none, 0, rfl, Nat.le_refl _, by simp [maxLen], .inl ⟨rfl, rfl⟩⟩, Fresh.nil _ _⟩
  · cases xs with
    | nil => exact ⟨[], ⟨_, cap, rfl, hn, hm, .inl ⟨rfl, rfl⟩⟩, Fresh.nil _ _⟩
    | cons x r =>
      have hcat : CellsAt w g 0 cl := fun j u hu => by
        rw [cell_of_row _ _ _ _ _ _ hb, Nat.zero_add]
        rw [← ht, List.getElem?_take] at hu
        split at hu
        · simpa using hu
        · cases hu
      refine ⟨g :: F, ⟨_, cap, rfl, hn, hm, .inr ⟨g, 0, F, rfl, blk_lt hb, rfl, hel.toR hR hcat⟩⟩, ⟨List.nodup_cons.2 ⟨fun hk => h4 g hk rfl, h3.nodup⟩, fun b hb' => ?_, fun b hb' => ?_⟩⟩
      · rcases List.mem_cons.1 hb' with rfl | hb'
        · exact hg
        · exact h3.from_ b hb'
      · rcases List.mem_cons.1 hb' with rfl | hb'
        · exact ⟨cur, e, hb⟩
        · exact h3.cells b hb'
end
/-- Where the row lies behind an append: where it lay, or in a new block. -/
theorem run_append_where {P : Program} (w : World) (base : Nat) (t ty e : TypeId) (i : TypeInfo) (z : Value) (size bytes : Nat) (ht : P.underlying t = some (.slice e)) (hi : P.info? e = some i) (hz : i.zero = some z)
    (hsize : i.size = size) (hby : i.bytes = bytes) (hzs : z.cells.size = size) (hsz : 0 < size)
    (v : Value) (n : Nat) (xs : List Value) (hown : w.ownsRow base e size v n xs)
    (a : Addr) (m c : Nat) (news : List Value) (hl : news.length = m * size) (hnews : ∀ j u, news[j]? = some u → w.cell? (a.add j) = some u) (h1 : ∀ u ∈ news, u.oneCell' = true)
    (h63 : n + m ≤ maxLen) (hbytes : (n + m) * bytes ≤ 140737488355328) (hbase : base ≤ w.heap.size) :
    ∃ v' w', (Builtin.append_ #[t, t] ty #[v, .slice (some a) m c]).run P w = .ok v' w' ∧ w'.ownsRow base e size v' (n + m) (xs ++ news) ∧ w.grownBy w' v.ownBlock ∧
      (∀ k, v'.ownBlock = some k → v.ownBlock = some k ∨ w.heap.size ≤ k) := by
  obtain ⟨v', w', hr, h2, h3, _⟩ := run_append_own (P := P) w base t ty e i z size bytes ht hi hz hsize hby hzs hsz v n xs hown a m c news hl hnews h1 h63 hbytes hbase
  refine ⟨v', w', hr, h2, h3, ?_⟩
  subst hsize
  subst hby
  rcases hown.2 with ⟨rfl, rfl⟩ | ⟨g, cap, cur, rfl, hbg, hg, hnc, hcm, hcs, htake⟩
  · have hx : xs = [] := List.eq_nil_of_length_eq_zero (by simpa using hown.1)
    subst hx
    obtain ⟨v2, w2, hr2, g2, _, _⟩ := run_append_own (P := P) w w.heap.size t ty e i z i.size i.bytes ht hi hz rfl rfl hzs hsz _ 0 [] (World.ownsRow_nil w w.heap.size e i.size) a m c news hl hnews h1 h63 hbytes (Nat.le_refl _)
    rw [hr] at hr2
    injection hr2 with hv hw
    subst hv hw
    exact fun k hk => .inr (g2.lt k hk).1
  · by_cases hroom : n + m ≤ cap
    · have hfit : n * i.size + news.length ≤ cur.size := by rw [hl, hcs, ← Nat.add_mul]; exact Nat.mul_le_mul_right _ hroom
      have hr2 := run_append_room (P := P) w t ty e i ht hi g n cap cur hg a m c news hl hnews h1 hroom hfit
      rw [hr] at hr2
      injection hr2 with hv hw
      subst hv
      exact fun k hk => .inl hk
    · have holds : ∀ j u, xs[j]? = some u → w.cell? ((⟨g, 0, none⟩ : Addr).add j) = some u := hown.cells (g := g) rfl
      unfold maxLen at h63 hcm
      have hr2 := run_append_grow (P := P) w t ty e i z ht hi hz ⟨g, 0, none⟩ n cap xs hown.1 holds a m c news hl hnews (by omega) (by omega) (growslice_fits (by omega) hbytes)
      rw [hr] at hr2
      injection hr2 with hv hw
      subst hv
      intro k hk
      simp only [Value.ownBlock, Option.some.injEq] at hk
      exact .inr (by omega)
/-- One element appended to the row: what is new of it came behind the row. -/
theorem app_ownS {α : Type} {P : Program} {ops : Array Oper} {rest : List Oper} {o : Oper} {a : Act} {Q : Exit → Act → World → Prop} (hgd : o.guard = none) (s x : Operand) (t e : TypeId)
    (ho : o.op = .call { callee := .builtin .append, args := #[s, x], argTypes := #[t, t] }) (ht : P.underlying t = some (.slice e)) {z : Value} {size bytes : Nat}
    (hinfo : (P.info? e).map (fun i => (i.zero, i.size, i.bytes)) = some (some z, size, bytes)) (hzs : z.cells.size = size) (hsz : 0 < size) {R : CR α} (hR : Good size R) (wr W : World) (base : Nat) (v : Value) (xs : List α) (F : List Nat)
    (hown : OwnS size R base e wr xs v F) (hs : a.eval s = v) (hbW : Below wr.heap.size wr W) (y : α) (ys : List Value) (G : List Nat) (hy : R W y ys G) (hG : Fresh wr.heap.size W G) (hy1 : ∀ u ∈ ys, u.oneCell' = true)
    (hx : a.eval x = .slice (some ⟨W.heap.size, 0, none⟩) 1 1)
    (hn : xs.length + 1 ≤ 1099511627776) (hby : (xs.length + 1) * bytes ≤ 140737488355328) (hbase : base ≤ wr.heap.size)
    (h : ∀ v' w', OwnS size R base e w' (xs ++ [y]) v' (F ++ G) → Below base wr w' → wpList P ops Q rest (a.put o.dst v') w') : wpList P ops Q (o :: rest) a (W.alloc (.cells ys.toArray e)) := by
  obtain ⟨i0, hi, hz0, hz1, hz2⟩ := info_parts hinfo
  have hbA : Below wr.heap.size wr (W.alloc (.cells ys.toArray e)) := hbW.alloc hbW.size _
  have hlen := hR.len hy
  have hFlt := hown.fresh.lt
  have hblk := hown.blk
  obtain ⟨⟨cl, hrow, hel⟩, hf, hoff⟩ := hown
  have hcells : ∀ j u, ys[j]? = some u → (W.alloc (.cells ys.toArray e)).cell? ((⟨W.heap.size, 0, none⟩ : Addr).add j) = some u := fun j u hu => by
    have := CellsAt.new W ys e j u hu
    rw [Nat.zero_add] at this
    unfold Addr.add
    split
    · rename_i h0
      subst h0
      exact this
    · rw [show (0 : Nat) + j = j by omega]
      exact this
  have hsz1 : wr.heap.size ≤ (W.alloc (.cells ys.toArray e)).heap.size := hbA.size
  refine wpList_plain hgd fun K hK => ?_
  obtain ⟨v', w', hr, h2, h3, h4⟩ := run_append_where (P := P) (W.alloc (.cells ys.toArray e)) base t o.type e i0 z size bytes ht hi hz0 hz1 hz2 hzs hsz v xs.length cl (own_below hrow hbA) ⟨W.heap.size, 0, none⟩ 1 1 ys (by omega) hcells hy1 (by unfold maxLen; omega) hby (by omega)
  have hblkA : ∀ k, k < W.heap.size → v.ownBlock ≠ some k → w'.heap[k]? = W.heap[k]? := fun k hk hne => by
    rw [h3.block k (by rw [World.size_alloc]; omega) (fun he => hne he.symm), Below.heap_alloc W _ k hk]
  have hWw : wr.heap.size ≤ W.heap.size := hbW.size
  have hF' : ∀ k ∈ F, w'.heap[k]? = wr.heap[k]? := fun k hk => by
    have hk1 := hFlt k hk
    rw [hblkA k (by omega) (hoff k hk), hbW.block k hk1]
  have hG' : ∀ k ∈ G, w'.heap[k]? = W.heap[k]? := fun k hk => hblkA k (hG.lt k hk) fun he => by
    have h5 := (hblk k he).2
    have h6 := hG.from_ k hk
    omega
  have hzw : W.heap.size ≤ w'.heap.size := Nat.le_trans (by simp) h3.size
  have hres : OwnS size R base e w' (xs ++ [y]) v' (F ++ G) := by
    refine ⟨⟨cl ++ ys, by rw [List.length_append]; exact h2, ElL.snoc (hR.frame hy hG' hzw) (hel.frame hR (by omega) hF')⟩, (hf.keep hF').append (hG.keep hG') hFlt hbase, fun k hk he => ?_⟩
    rcases h4 k he with h5 | h5
    · rcases List.mem_append.1 hk with hk | hk
      · exact hoff k hk h5
      · have := (hblk k h5).2; have := hG.from_ k hk; omega
    · rcases List.mem_append.1 hk with hk | hk
      · have := hFlt k hk; simp at h5; omega
      · have := hG.lt k hk; simp at h5; omega
  have hbl : Below base wr w' := (hbA.mono hbase).grown h3 (by omega) fun k hk => (hblk k hk).1
  have hfin := hK _ _ (h v' w' hres hbl)
  revert hr
  intro hr
  unfold Oper.wp execOp
  simp only [ho, resolve, invoke, builtin, Sem.run_bind, Sem.run_pure, Result.andThen_ok, List.map_toArray, List.map_cons, List.map_nil, hs, hx, hr]
  exact hfin
end Go.Proofs.Ytaihdnlpdibkoaa
