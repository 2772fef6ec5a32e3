/- Several texts of one proof in one file: Rows that the call owns, of things of several cells that own blocks of their own: one appended, the row told as a slice. Plain: no program. Boxes of a call's own: a parameter's and the result's; whole slices appended to an empty row. Plain: no program. Symbols and rules sought in a grammar, in its own memory: the program's. A whole slice of plain things appended to an empty row, inside a region that draws its order. Plain: no program. What the memory of a text is. Plain facts of the program. slices.Clone at attributes and at texts; a symbol copied. Conditions: each theorem names its own. -/
import Derived.Test.YthlhhnnlbpecnaaGreatGcsai
import Derived.Test.YthlhhnnlbpecnaaGreatGcsah
import Derived.Laws.AppendOwnNone
import Derived.Deep.RegionHeld3
import Derived.Test.YthlhhnnlbpecnaaGreatGcsab
import Derived.Lib.SliceRun

/- Rows that the call owns, of things of several cells that own blocks of their own: one appended, the row told as a slice. Plain: no program. -/
namespace Go.Proofs.YthlhhnnlbpecnaaGreat
set_option linter.unusedSimpArgs false
set_option linter.unusedVariables false
set_option maxRecDepth 100000
open Go.RowKit

/-- The elements of a row by their cells, one behind another. -/
def ElL {α : Type} (R : CR α) (w : World) : List α → List Value → List Nat → Prop
  | [], cl, F => cl = [] ∧ F = []
  | x :: r, cl, F => ∃ cs cr F1 F2, cl = cs ++ cr ∧ F = F1 ++ F2 ∧ R w x cs F1 ∧ ElL R w r cr F2
section
variable {α : Type} {n : Nat} {R : CR α}
theorem ElL.frame (hR : Good n R) {w w' : World} (hz : w.heap.size ≤ w'.heap.size) : ∀ {xs : List α} {cl : List Value} {F : List Nat}, ElL R w xs cl F → (∀ k ∈ F, w'.heap[k]? = w.heap[k]?) → ElL R w' xs cl F
  | [], _, _, h, _ => h
  | x :: r, cl, F, h, hk => by
    obtain ⟨cs, cr, F1, F2, rfl, rfl, h1, h2⟩ := h
    exact ⟨cs, cr, F1, F2, rfl, rfl, hR.frame h1 (fun k hk' => hk k (by simp [hk'])) hz, ElL.frame hR hz h2 (fun k hk' => hk k (by simp [hk']))⟩
theorem ElL.snoc {w : World} {x : α} {cs : List Value} {G : List Nat} (hx : R w x cs G) : ∀ {xs : List α} {cl : List Value} {F : List Nat}, ElL R w xs cl F → ElL R w (xs ++ [x]) (cl ++ cs) (F ++ G)
  | [], cl, F, h => by
    obtain ⟨rfl, rfl⟩ := h
    exact ⟨cs, [], G, [], by simp, by simp, hx, rfl, rfl⟩
  | y :: r, cl, F, h => by
    obtain ⟨c1, cr, F1, F2, rfl, rfl, h1, h2⟩ := h
    exact ⟨c1, cr ++ cs, F1, F2 ++ G, by simp, by simp, h1, ElL.snoc hx h2⟩
theorem ElL.toR (hR : Good n R) {w : World} {b : Nat} : ∀ {xs : List α} {cl : List Value} {F : List Nat} {off : Nat}, ElL R w xs cl F → CellsAt w b off cl → ElR n R w b off xs F
  | [], cl, F, off, h, _ => h.2
  | x :: r, cl, F, off, h, hc => by
    obtain ⟨cs, cr, F1, F2, rfl, rfl, h1, h2⟩ := h
    have hl := hR.len h1
    refine ⟨cs, F1, F2, rfl, fun j u hu => hc j u ?_, h1, ElL.toR hR h2 fun j u hu => ?_⟩
    · rw [List.getElem?_append_left (List.getElem?_eq_some_iff.1 hu).1]; exact hu
    · have := hc (n + j) u (by rw [List.getElem?_append_right (by omega), show n + j - cs.length = j by omega]; exact hu)
      rwa [show off + n + j = off + (n + j) by omega]
end
/-- A row of the call's own that holds xs; F: the blocks that its elements own. -/
structure OwnS {α : Type} (n : Nat) (R : CR α) (B : Nat) (e : TypeId) (w : World) (xs : List α) (v : Value) (F : List Nat) : Prop where
  row : ∃ cl, w.ownsRow B e n v xs.length cl ∧ ElL R w xs cl F
  fresh : Fresh B w F
  off : ∀ k ∈ F, v.ownBlock ≠ some k
section
variable {α : Type} {n B : Nat} {R : CR α} {e : TypeId} {w w' : World} {xs : List α} {v : Value} {F : List Nat}
theorem OwnS.nil (w : World) : OwnS n R B e w [] (.slice none 0 0) [] := ⟨⟨[], World.ownsRow_nil _ _ _ _, rfl, rfl⟩, Fresh.nil _ _, by simp⟩
theorem OwnS.made (w : World) (hB : B ≤ w.heap.size) : OwnS n R B e (w.alloc (.cells #[] e)) [] (.slice (some ⟨w.heap.size, 0, none⟩) 0 0) [] :=
  ⟨⟨[], World.ownsRow_made w #[] 0 hB (by simp [maxLen]) (by simp), rfl, rfl⟩, Fresh.nil _ _, by simp⟩
theorem OwnS.blk (h : OwnS n R B e w xs v F) : ∀ k, v.ownBlock = some k → B ≤ k ∧ k < w.heap.size := by
  obtain ⟨cl, h1, _⟩ := h.row
  exact h1.lt
theorem OwnS.below (hR : Good n R) (h : OwnS n R B e w xs v F) (hb : Below w.heap.size w w') : OwnS n R B e w' xs v F := by
  obtain ⟨⟨cl, h1, h2⟩, h3, h4⟩ := h
  exact ⟨⟨cl, own_below h1 hb, h2.frame hR hb.size fun k hk => hb.block k (h3.lt k hk)⟩, h3.below hb, h4⟩
theorem OwnS.form (h : OwnS n R B e w xs v F) : ∃ A cap, v = .slice A xs.length cap ∧ xs.length ≤ cap ∧ cap ≤ maxLen := by
  obtain ⟨⟨cl, ⟨_, h2⟩, _⟩, _, _⟩ := h
  rcases h2 with ⟨rfl, h0⟩ | ⟨g, cap, cur, rfl, hg, hb, hn, hm, hc, ht⟩
  · exact ⟨none, 0, by rw [h0], by omega, by simp [maxLen]⟩
  · exact ⟨_, cap, rfl, hn, hm⟩
/-- The row told as a slice. -/
theorem OwnS.slr (hR : Good n R) (h : OwnS n R B e w xs v F) : ∃ G, SlR n R w xs v G ∧ Fresh B w G := by
  obtain ⟨⟨cl, ⟨h1, h2⟩, hel⟩, h3, h4⟩ := h
  rcases h2 with ⟨rfl, h0⟩ | ⟨g, cap, cur, rfl, hg, hb, hn, hm, hc, ht⟩
  · obtain rfl := List.length_eq_zero_iff.1 h0
    exact ⟨[], ⟨none, 0, rfl, Nat.le_refl _, by simp [maxLen], .inl ⟨rfl, rfl⟩⟩, Fresh.nil _ _⟩
  · cases xs with
    | nil => exact ⟨[], ⟨_, cap, rfl, hn, hm, .inl ⟨rfl, rfl⟩⟩, Fresh.nil _ _⟩
    | cons x r =>
      have hcat : CellsAt w g 0 cl := fun j u hu => by
        rw [cell_of_row _ _ _ _ _ _ hb, Nat.zero_add]
        rw [← ht, List.getElem?_take] at hu
        split at hu
        · simpa using hu
        · cases hu
      refine ⟨g :: F, ⟨_, cap, rfl, hn, hm, .inr ⟨g, 0, F, rfl, blk_lt hb, rfl, hel.toR hR hcat⟩⟩, ⟨List.nodup_cons.2 ⟨fun hk => h4 g hk rfl, h3.nodup⟩, fun b hb' => ?_, fun b hb' => ?_⟩⟩
      · rcases List.mem_cons.1 hb' with rfl | hb'
        · exact hg
        · exact h3.from_ b hb'
      · rcases List.mem_cons.1 hb' with rfl | hb'
        · exact ⟨cur, e, hb⟩
        · exact h3.cells b hb'
end
/-- Where the row lies behind an append: where it lay, or in a new block. -/
theorem run_append_where {P : Program} (w : World) (base : Nat) (t ty e : TypeId) (i : TypeInfo) (z : Value) (size bytes : Nat) (ht : P.underlying t = some (.slice e)) (hi : P.info? e = some i) (hz : i.zero = some z)
    (hsize : i.size = size) (hby : i.bytes = bytes) (hzs : z.cells.size = size) (hsz : 0 < size)
    (v : Value) (n : Nat) (xs : List Value) (hown : w.ownsRow base e size v n xs)
    (a : Addr) (m c : Nat) (news : List Value) (hl : news.length = m * size) (hnews : ∀ j u, news[j]? = some u → w.cell? (a.add j) = some u) (h1 : ∀ u ∈ news, u.oneCell' = true)
    (h63 : n + m ≤ maxLen) (hbytes : (n + m) * bytes ≤ 140737488355328) (hbase : base ≤ w.heap.size) :
    ∃ v' w', (Builtin.append_ #[t, t] ty #[v, .slice (some a) m c]).run P w = .ok v' w' ∧ w'.ownsRow base e size v' (n + m) (xs ++ news) ∧ w.grownBy w' v.ownBlock ∧
      (∀ k, v'.ownBlock = some k → v.ownBlock = some k ∨ w.heap.size ≤ k) := by
  obtain ⟨v', w', hr, h2, h3, _⟩ := run_append_own (P := P) w base t ty e i z size bytes ht hi hz hsize hby hzs hsz v n xs hown a m c news hl hnews h1 h63 hbytes hbase
  refine ⟨v', w', hr, h2, h3, ?_⟩
  subst hsize
  subst hby
  rcases hown.2 with ⟨rfl, rfl⟩ | ⟨g, cap, cur, rfl, hbg, hg, hnc, hcm, hcs, htake⟩
  · have hx : xs = [] := List.eq_nil_of_length_eq_zero (by simpa using hown.1)
    subst hx
    obtain ⟨v2, w2, hr2, g2, _, _⟩ := run_append_own (P := P) w w.heap.size t ty e i z i.size i.bytes ht hi hz rfl rfl hzs hsz _ 0 [] (World.ownsRow_nil w w.heap.size e i.size) a m c news hl hnews h1 h63 hbytes (Nat.le_refl _)
    rw [hr] at hr2
    injection hr2 with hv hw
    subst hv hw
    exact fun k hk => .inr (g2.lt k hk).1
  · by_cases hroom : n + m ≤ cap
    · have hfit : n * i.size + news.length ≤ cur.size := by rw [hl, hcs, ← Nat.add_mul]; exact Nat.mul_le_mul_right _ hroom
      have hr2 := run_append_room (P := P) w t ty e i ht hi g n cap cur hg a m c news hl hnews h1 hroom hfit
      rw [hr] at hr2
      injection hr2 with hv hw
      subst hv
      exact fun k hk => .inl hk
    · have holds : ∀ j u, xs[j]? = some u → w.cell? ((⟨g, 0, none⟩ : Addr).add j) = some u := hown.cells (g := g) rfl
      unfold maxLen at h63 hcm
      have hr2 := run_append_grow (P := P) w t ty e i z ht hi hz ⟨g, 0, none⟩ n cap xs hown.1 holds a m c news hl hnews (by omega) (by omega) (growslice_fits (by omega) hbytes)
      rw [hr] at hr2
      injection hr2 with hv hw
      subst hv
      intro k hk
      simp only [Value.ownBlock, Option.some.injEq] at hk
      exact .inr (by omega)
/-- One element appended to the row: what is new of it came behind the row. -/
theorem app_ownS {α : Type} {P : Program} {ops : Array Oper} {rest : List Oper} {o : Oper} {a : Act} {Q : Exit → Act → World → Prop} (hgd : o.guard = none) (s x : Operand) (t e : TypeId)
    (ho : o.op = .call { callee := .builtin .append, args := #[s, x], argTypes := #[t, t] }) (ht : P.underlying t = some (.slice e)) {z : Value} {size bytes : Nat}
    (hinfo : (P.info? e).map (fun i => (i.zero, i.size, i.bytes)) = some (some z, size, bytes)) (hzs : z.cells.size = size) (hsz : 0 < size) {R : CR α} (hR : Good size R) (wr W : World) (base : Nat) (v : Value) (xs : List α) (F : List Nat)
    (hown : OwnS size R base e wr xs v F) (hs : a.eval s = v) (hbW : Below wr.heap.size wr W) (y : α) (ys : List Value) (G : List Nat) (hy : R W y ys G) (hG : Fresh wr.heap.size W G) (hy1 : ∀ u ∈ ys, u.oneCell' = true)
    (hx : a.eval x = .slice (some ⟨W.heap.size, 0, none⟩) 1 1)
    (hn : xs.length + 1 ≤ 1099511627776) (hby : (xs.length + 1) * bytes ≤ 140737488355328) (hbase : base ≤ wr.heap.size)
    (h : ∀ v' w', OwnS size R base e w' (xs ++ [y]) v' (F ++ G) → Below base wr w' → wpList P ops Q rest (a.put o.dst v') w') : wpList P ops Q (o :: rest) a (W.alloc (.cells ys.toArray e)) := by
  obtain ⟨i0, hi, hz0, hz1, hz2⟩ := info_parts hinfo
  have hbA : Below wr.heap.size wr (W.alloc (.cells ys.toArray e)) := hbW.alloc hbW.size _
  have hlen := hR.len hy
  have hFlt := hown.fresh.lt
  have hblk := hown.blk
  obtain ⟨⟨cl, hrow, hel⟩, hf, hoff⟩ := hown
  have hcells : ∀ j u, ys[j]? = some u → (W.alloc (.cells ys.toArray e)).cell? ((⟨W.heap.size, 0, none⟩ : Addr).add j) = some u := fun j u hu => by
    have := CellsAt.new W ys e j u hu
    rw [Nat.zero_add] at this
    unfold Addr.add
    split
    · rename_i h0
      subst h0
      exact this
    · rw [show (0 : Nat) + j = j by omega]
      exact this
  have hsz1 : wr.heap.size ≤ (W.alloc (.cells ys.toArray e)).heap.size := hbA.size
  refine wpList_plain hgd fun K hK => ?_
  obtain ⟨v', w', hr, h2, h3, h4⟩ := run_append_where (P := P) (W.alloc (.cells ys.toArray e)) base t o.type e i0 z size bytes ht hi hz0 hz1 hz2 hzs hsz v xs.length cl (own_below hrow hbA) ⟨W.heap.size, 0, none⟩ 1 1 ys (by omega) hcells hy1 (by unfold maxLen; omega) hby (by omega)
  have hblkA : ∀ k, k < W.heap.size → v.ownBlock ≠ some k → w'.heap[k]? = W.heap[k]? := fun k hk hne => by
    rw [h3.block k (by rw [World.size_alloc]; omega) (fun he => hne he.symm), Below.heap_alloc W _ k hk]
  have hWw : wr.heap.size ≤ W.heap.size := hbW.size
  have hF' : ∀ k ∈ F, w'.heap[k]? = wr.heap[k]? := fun k hk => by
    have hk1 := hFlt k hk
    rw [hblkA k (by omega) (hoff k hk), hbW.block k hk1]
  have hG' : ∀ k ∈ G, w'.heap[k]? = W.heap[k]? := fun k hk => hblkA k (hG.lt k hk) fun he => by
    have h5 := (hblk k he).2
    have h6 := hG.from_ k hk
    omega
  have hzw : W.heap.size ≤ w'.heap.size := Nat.le_trans (by simp) h3.size
  have hres : OwnS size R base e w' (xs ++ [y]) v' (F ++ G) := by
    refine ⟨⟨cl ++ ys, by rw [List.length_append]; exact h2, ElL.snoc (hR.frame hy hG' hzw) (hel.frame hR (by omega) hF')⟩, (hf.keep hF').append (hG.keep hG') hFlt hbase, fun k hk he => ?_⟩
    rcases h4 k he with h5 | h5
    · rcases List.mem_append.1 hk with hk | hk
      · exact hoff k hk h5
      · have := (hblk k h5).2; have := hG.from_ k hk; omega
    · rcases List.mem_append.1 hk with hk | hk
      · have := hFlt k hk; simp at h5; omega
      · have := hG.lt k hk; simp at h5; omega
  have hbl : Below base wr w' := (hbA.mono hbase).grown h3 (by omega) fun k hk => (hblk k hk).1
  have hfin := hK _ _ (h v' w' hres hbl)
  revert hr
  intro hr
  unfold Oper.wp execOp
  simp only [ho, resolve, invoke, builtin, Sem.run_bind, Sem.run_pure, Result.andThen_ok, List.map_toArray, List.map_cons, List.map_nil, hs, hx, hr]
  exact hfin
end Go.Proofs.YthlhhnnlbpecnaaGreat

/- Boxes of a call's own: a parameter's and the result's; whole slices appended to an empty row. Plain: no program. -/
namespace Go.Proofs.YthlhhnnlbpecnaaGreat
set_option linter.unusedSimpArgs false
set_option linter.unusedVariables false
set_option maxRecDepth 100000
open Go.RowKit

theorem boxR (w : World) (a z : List Value) (ta tz : TypeId) :
    CellsAt ((w.alloc (.cells a.toArray ta)).alloc (.cells z.toArray tz)) w.heap.size 0 a ∧ ((w.alloc (.cells a.toArray ta)).alloc (.cells z.toArray tz)).heap[w.heap.size + 1]? = some (.cells z.toArray tz (0, 0)) ∧
      ((w.alloc (.cells a.toArray ta)).alloc (.cells z.toArray tz)).heap.size = w.heap.size + 2 ∧ Below w.heap.size w ((w.alloc (.cells a.toArray ta)).alloc (.cells z.toArray tz)) := by
  obtain ⟨h1, h2, h3, h4⟩ := boxes2 w a z ta tz
  have h5 := heap_alloc_new (w.alloc (.cells a.toArray ta)) (.cells z.toArray tz)
  rw [World.size_alloc] at h5
  exact ⟨h1, h5, h3, h4⟩
/-- Two boxes of parameters ahead of the result's. -/
theorem boxR2 (w : World) (a b z : List Value) (ta tb tz : TypeId) :
    CellsAt (((w.alloc (.cells a.toArray ta)).alloc (.cells b.toArray tb)).alloc (.cells z.toArray tz)) w.heap.size 0 a ∧ CellsAt (((w.alloc (.cells a.toArray ta)).alloc (.cells b.toArray tb)).alloc (.cells z.toArray tz)) (w.heap.size + 1) 0 b ∧
      (((w.alloc (.cells a.toArray ta)).alloc (.cells b.toArray tb)).alloc (.cells z.toArray tz)).heap[w.heap.size + 2]? = some (.cells z.toArray tz (0, 0)) ∧
      (((w.alloc (.cells a.toArray ta)).alloc (.cells b.toArray tb)).alloc (.cells z.toArray tz)).heap.size = w.heap.size + 3 ∧ Below w.heap.size w (((w.alloc (.cells a.toArray ta)).alloc (.cells b.toArray tb)).alloc (.cells z.toArray tz)) := by
  obtain ⟨h1, h2, _, h3, h4⟩ := boxes3 w a b z ta tb tz
  have h5 := heap_alloc_new ((w.alloc (.cells a.toArray ta)).alloc (.cells b.toArray tb)) (.cells z.toArray tz)
  rw [World.size_alloc, World.size_alloc] at h5
  exact ⟨h1, h2, h5, h3, h4⟩
/-- A value of one or more cells stored into an older block. -/
theorem wpList_store_any {P : Program} {ops : Array Oper} {rest : List Oper} {o : Oper} {a : Act} {w : World} {Q : Exit → Act → World → Prop} (ty : TypeId) (x y : Operand) (ho : o.op = .store ty x y)
    {n : Nat} {cs : List Value} {v : Value} (hv : v.cells = cs.toArray) (hi : (P.info? ty).map (·.size) = some n) (hw : Region.wanted o (yielded ops a.tmps) = true) (hy : a.eval y = v) {g off : Nat} (hx : a.eval x = .pointer (some ⟨g, off, none⟩)) (hn : cs.length = n) (h1 : ∀ v ∈ cs, v.oneCell' = true)
    {old : Array Value} {t : TypeId} (hg : w.heap[g]? = some (.cells old t (0, 0))) (hfit : off + n ≤ old.size)
    (h : ∀ w', Put w g off cs old t w' → wpList P ops Q rest (a.put o.dst undef) w') : wpList P ops Q (o :: rest) a w :=
  BigFrame.wpList_want hw fun K hK => by
    subst hn
    have hst := run_storeCells_at P g off t cs 0 old w hg (by simpa using hfit) h1
    simp only [Nat.add_zero] at hst
    have hr : (storeVar ty ⟨g, off, none⟩ v).run P w = .ok () (w.setRow g (old.toList.take off ++ cs ++ old.toList.drop (off + cs.length)).toArray) := by
      cases hq : P.info? ty with
      | none => simp [hq] at hi
      | some i =>
        have hs : i.size = cs.length := by simpa [hq] using hi
        simp [storeVar, sizeOf, typeInfo, hq, hv, hs, hst]
    unfold Oper.wp execOp
    simp only [ho, hx, hy, Instr.storeAt, Instr.sureAddr, Sem.run_bind, Sem.run_pure, Result.andThen_ok, hr]
    exact hK _ _ (h _ (Put.of_row hg hfit))
section
variable {α : Type} {n : Nat} {R : CR α}
/-- The cells of a row's elements, one behind another. -/
theorem ElR.toL (hR : Good n R) {w : World} {b : Nat} : ∀ {xs : List α} {off : Nat} {F : List Nat}, ElR n R w b off xs F → ∃ cl, cl.length = xs.length * n ∧ CellsAt w b off cl ∧ ElL R w xs cl F
  | [], _, _, h => ⟨[], by simp, (fun j u hu => by cases hu), rfl, h⟩
  | x :: r, off, F, h => by
    obtain ⟨cs, F1, F2, rfl, h1, h2, h3⟩ := h
    obtain ⟨cl, hl, hc, he⟩ := ElR.toL hR h3
    have hn := hR.len h2
    refine ⟨cs ++ cl, by rw [List.length_append, hn, hl, List.length_cons, Nat.add_mul]; omega, fun j u hu => ?_, cs, cl, F1, F2, rfl, rfl, h2, he⟩
    by_cases hj : j < cs.length
    · rw [List.getElem?_append_left hj] at hu
      exact h1 j u hu
    · rw [List.getElem?_append_right (by omega)] at hu
      have := hc (j - cs.length) u hu
      rwa [show off + n + (j - cs.length) = off + j by omega] at this
theorem ElL.one (h1 : ∀ w x cs F, R w x cs F → ∀ v ∈ cs, v.oneCell' = true) {w : World} : ∀ {xs : List α} {cl : List Value} {F : List Nat}, ElL R w xs cl F → ∀ v ∈ cl, v.oneCell' = true
  | [], _, _, h => by rw [h.1]; simp
  | x :: r, _, _, h => by
    obtain ⟨cs, cr, F1, F2, rfl, rfl, g1, g2⟩ := h
    intro v hv
    rcases List.mem_append.1 hv with hv | hv
    · exact h1 _ _ _ _ g1 v hv
    · exact ElL.one h1 g2 v hv
theorem ElL.plain (hp : ∀ w x cs F, R w x cs F → F = []) {w : World} : ∀ {xs : List α} {cl : List Value} {F : List Nat}, ElL R w xs cl F → F = []
  | [], _, _, h => h.2
  | x :: r, _, _, h => by
    obtain ⟨cs, cr, F1, F2, rfl, rfl, g1, g2⟩ := h
    rw [hp _ _ _ _ g1, ElL.plain hp g2]
    rfl
end
/-- A whole slice of plain things appended to a row that was made last. -/
theorem app_all {α : Type} {P : Program} {ops : Array Oper} {rest : List Oper} {o : Oper} {a : Act} {Q : Exit → Act → World → Prop} (hgd : o.guard = none) (s x : Operand) (t e : TypeId)
    (ho : o.op = .call { callee := .builtin .append, args := #[s, x], argTypes := #[t, t] }) (ht : P.underlying t = some (.slice e)) {z : Value} {size bytes : Nat}
    (hinfo : (P.info? e).map (fun i => (i.zero, i.size, i.bytes)) = some (some z, size, bytes)) (hzs : z.cells.size = size) (hsz : 0 < size) {R : CR α} (hR : Good size R) (hp : ∀ w x cs F, R w x cs F → F = []) (h1 : ∀ w x cs F, R w x cs F → ∀ v ∈ cs, v.oneCell' = true)
    (W : World) (xs : List α) (A : Option Addr) (cap : Nat) (F : List Nat) (hsl : SlR size R W xs (.slice A xs.length cap) F) (hs : a.eval s = .slice (some ⟨W.heap.size, 0, none⟩) 0 0) (hx : a.eval x = .slice A xs.length cap)
    (hA : xs ≠ [] ∨ A.isSome = true) (hn : xs.length ≤ 1099511627776) (hby : xs.length * bytes ≤ 140737488355328)
    (h : ∀ v' w', (∃ G, SlR size R w' xs v' G ∧ Fresh W.heap.size w' G) → Below W.heap.size W w' → wpList P ops Q rest (a.put o.dst v') w') : wpList P ops Q (o :: rest) a (W.alloc (.cells #[] e)) := by
  obtain ⟨i0, hi, hz0, hz1, hz2⟩ := info_parts hinfo
  have hmade : (W.alloc (.cells #[] e)).ownsRow W.heap.size e size (.slice (some ⟨W.heap.size, 0, none⟩) 0 0) 0 [] := World.ownsRow_made W #[] 0 (Nat.le_refl _) (by simp [maxLen]) (by simp)
  obtain ⟨A', cap', hv, hl, hm, hc⟩ := hsl
  injection hv with hA' _ hcap
  subst hA' hcap
  obtain ⟨ad, rfl⟩ : ∃ ad, A = some ad := by
    rcases hA with h | h
    · rcases hc with ⟨h0, _⟩ | ⟨b, off, F', h2, _⟩
      · exact absurd h0 h
      · exact ⟨_, h2⟩
    · exact Option.isSome_iff_exists.1 h
  obtain ⟨cl, hcl, hcells, hel⟩ : ∃ cl, cl.length = xs.length * size ∧ (∀ j u, cl[j]? = some u → (W.alloc (.cells #[] e)).cell? (ad.add j) = some u) ∧ ElL R W xs cl [] := by
    rcases hc with ⟨rfl, _⟩ | ⟨b, off, F', h2, hb, rfl, he⟩
    · exact ⟨[], by simp, (fun j u hu => by cases hu), rfl, rfl⟩
    · injection h2 with h2
      subst h2
      obtain ⟨cl, g1, g2, g3⟩ := he.toL hR
      have hF := g3.plain hp
      subst hF
      refine ⟨cl, g1, fun j u hu => ?_, g3⟩
      have e1 : (⟨b, off, none⟩ : Addr).add j = ⟨b, off + j, none⟩ := by
        unfold Addr.add
        split
        · rename_i h0; subst h0; rfl
        · rfl
      rw [e1]
      exact (((Below.refl W.heap.size W).alloc (Nat.le_refl _) _).cell (p := ⟨b, off + j, none⟩) hb).trans (g2 j u hu)
  refine wpList_append_own _ hgd s x t ho W.heap.size e i0 z size bytes ht hi hz0 hz1 hz2 hzs hsz _ 0 [] hs hmade ad xs.length cap cl hx hcl hcells (hel.one h1) (by unfold maxLen; omega) (by rw [Nat.zero_add]; exact hby) (by simp) ?_
  intro v' w' h2 h3 _
  rw [Nat.zero_add, List.nil_append] at h2
  have hW : Below W.heap.size W w' := ((Below.refl W.heap.size W).alloc (Nat.le_refl _) _).grown h3 (by simp) (fun k hk => by simp only [Value.ownBlock, Option.some.injEq] at hk; omega)
  have hO : OwnS size R W.heap.size e w' xs v' [] := ⟨⟨cl, h2, hel.frame hR hW.size (by simp)⟩, Fresh.nil _ _, by simp⟩
  exact h v' w' (hO.slr hR) hW
end Go.Proofs.YthlhhnnlbpecnaaGreat

/- Symbols and rules sought in a grammar, in its own memory: the program's. Conditions: none beyond that the grammar can be read. -/
namespace Go.Proofs.YthlhhnnlbpecnaaGreat
set_option linter.unusedSimpArgs false
set_option linter.unusedVariables false
set_option maxRecDepth 100000
open Go.RowKit Go.WideShapes
set_option linter.unusedVariables false

theorem SymR.name {D : Nat} {w : World} {x : Sym} {cs : List Value} {F : List Nat} (h : SymR D w x cs F) : cs[0]? = some (.string x.name) := by
  obtain ⟨_, _, _, _, h0, _⟩ := h
  exact h0
theorem RulR.name {D : Nat} {w : World} {x : Rul} {cs : List Value} {F : List Nat} (h : RulR D w x cs F) : cs[0]? = some (.string x.name) := by
  obtain ⟨_, _, _, _, _, _, _, _, h0, _⟩ := h
  exact h0
theorem RulR.left {D : Nat} {w : World} {x : Rul} {cs : List Value} {F : List Nat} (h : RulR D w x cs F) : cs[1]? = some (.string x.left) := by
  obtain ⟨_, _, _, _, _, _, _, _, _, h0, _⟩ := h
  exact h0
/-- A struct found in the memory that came in. -/
def FoundInSym (D : Nat) (F : List Nat) (w : World) (o : Option Sym) (en : Ending) (w' : World) : Prop :=
  ∃ us F', en = .returned (.tuple #[.agg (List.toArray us), .bool o.isSome]) ∧ SymR D w' (o.getD Sym.zero) us F' ∧ (∀ k ∈ F', k ∈ F) ∧ Below w.heap.size w w'
set_option maxRecDepth 100000 in
set_option maxHeartbeats 2000000 in
theorem i_findSymbol (D : Nat) (x : Grm) (cs : List Value) (F : List Nat) (w : World) (h : GrmR D w x cs F) (s : ByteArray) :
    Calls Tryz.prog 44 #[.agg cs.toArray, .string s] w (FoundInSym D F w (findS x.symbols s)) := by
  obtain ⟨p0, p1, rfl⟩ := list2 ((GrmR.good D).len h)
  obtain ⟨v0, F0, v1, F1, _, ⟨h0, g0⟩, ⟨h1, g1⟩, rfl⟩ := h
  obtain rfl := Option.some.inj h0
  obtain rfl := Option.some.inj h1
  obtain ⟨A0, k0, rfl, hc0, hm0⟩ := g0.form
  obtain ⟨A1, k1, rfl, hc1, hm1⟩ := g1.form
  unfold maxLen at hm0 hm1
  have L := hide (g0.lt (SymR.good D))
  have Hs := hide g0
  have hll : x.symbols.length ≤ 9223372036854775807 := by omega
  have hi : (Tryz.prog.info? 42).map (·.size) = some 2 := by kernel_rfl
  have Hi := hide hi
  obtain ⟨C0, hR0, hz0, hw0⟩ := boxR w [.slice A0 x.symbols.length k0, .slice A1 x.rules.length k1] [.string ⟨#[]⟩, .slice none 0 0] 32 42
  show Calls _ _ #[.agg #[.slice A0 x.symbols.length k0, .slice A1 x.rules.length k1], .string s] w _
  clear g0 g1 h0 h1 hc0 hc1 hm0 hm1 hi
  go_enter Tryz.func44, Tryz.ntmps44
  go_wp2_with fail
  generalize (w.alloc (Obj.cells #[.slice A0 x.symbols.length k0, .slice A1 x.rules.length k1] 32)).alloc (Obj.cells #[.string ⟨#[]⟩, .slice none 0 0] 42) = W0 at C0 hR0 hz0 hw0 ⊢
  have hn0 : w.heap.size + 2 ≤ W0.heap.size := by omega
  have Hw : Hid (∀ W : World, Below (w.heap.size + 2) W0 W → Below w.heap.size w W) := hide fun W h => hw0.trans (h.mono (by omega))
  have hB0 : Below (w.heap.size + 2) W0 W0 := Below.refl _ _
  have e0 := cell_rule C0 (n := w.heap.size + 2) (by omega) 0 rfl
  have e1 := cell_rule C0 (n := w.heap.size + 2) (by omega) 1 rfl
  have HR0 : Hid (∀ W : World, Below (w.heap.size + 2) W0 W → W.heap[w.heap.size + 1]? = some (.cells #[.string ⟨#[]⟩, .slice none 0 0] 42 (0, 0))) := hide fun W h => blk_below hR0 h (by omega)
  clear C0 hz0 hw0 hR0
  go_wp2_with fail
  go_loopw [11] (fun i wr => ∃ j : Nat, j ≤ x.symbols.length ∧ i = .int .i64 j ∧ Hid (∀ (k : Nat) (y : Sym), k < j → x.symbols[k]? = some y → (y.name.toList == s.toList) = false) ∧ Hid (Below (w.heap.size + 2) W0 wr)) (fun i _ => x.symbols.length - (intOf i).toNat)
  case atStart => exact ⟨0, by omega, rfl, hide (fun k y hk => absurd hk (by omega)), hide hB0⟩
  case round =>
    obtain ⟨j, hj, rfl, Hno, Hb⟩ := hrel
    have hBr := Hb.out
    by_cases hlt : j < x.symbols.length
    · have hX : x.symbols[j]? = some x.symbols[j] := List.getElem?_eq_getElem hlt
      generalize x.symbols[j] = X at hX
      obtain ⟨b, off, cs, Fk, hA, _, hbF, hFk, hcl, hcat, hR⟩ := SlR.get (SymR.good D) Hs.out hX
      subst hA
      have H1 := hide (SymR.one hR)
      have hRk := hR
      obtain ⟨c0, c1, rfl⟩ := list2 hcl
      have hc0 : c0 = .string X.name := Option.some.inj (by simpa using SymR.name hR)
      subst hc0
      have HR := hide hRk
      have HX := hide hX
      have HFk := hide hFk
      have HlF : Hid (∀ k ∈ Fk, k < w.heap.size) := hide fun k hk => L.out k (hFk k hk)
      have hlb : b < w.heap.size := L.out b hbF
      have Hc : Hid (CellsAt wr b (off + j * 2) [.string X.name, c1]) := hide (hcat.below (Hw.out wr hBr) hlb)
      have Hn : Hid ([.string X.name, c1].length = 2) := hide rfl
      have hj0 : (0 : Int) ≤ (j : Int) := by omega
      have hj1 : (j : Int) < (x.symbols.length : Int) := by omega
      clear hX hcat hFk hbF hcl hR hRk
      go_wp2_with (first
        | refine wpList_load_at 42 (.tmp 13) rfl Tryz.underlying42 rfl Hi.out rfl rfl Hn.out Hc.out ?_
        | (refine wpList_store_new 42 (.tmp 7) (.tmp 14) rfl Hi.out rfl rfl rfl rfl Hn.out H1.out rfl ?_; refine hold ?_))
      have C := CellsAt.new wr [.string X.name, c1] 42
      have hz := World.size_alloc wr (Obj.cells #[.string X.name, c1] 42)
      have hwv : Below (w.heap.size + 2) W0 (wr.alloc (Obj.cells #[.string X.name, c1] 42)) := hBr.alloc (Nat.le_trans hn0 hBr.size) _
      generalize wr.alloc (Obj.cells #[.string X.name, c1] 42) = V1 at C hz hwv ⊢
      have ex := cell_rule C (n := wr.heap.size + 1) (by omega) 0 rfl
      have hVV : Below (wr.heap.size + 1) V1 V1 := Below.refl _ _
      have HC := hide C
      clear C hz
      refine Hold.go ?_
      cases hq : (X.name.toList == s.toList)
      · have Hq := hide hq
        go_wp2_with fail
        go_roundw
        case rel =>
          refine ⟨j + 1, by omega, by go_num, hide fun k z hk hz => ?_, hide hwv⟩
          by_cases hkj : k < j
          · exact Hno.out k z hkj hz
          · obtain rfl : k = j := by omega
            have := HX.out
            rw [hz] at this
            obtain rfl := Option.some.inj this
            exact Hq.out
        case measure => simp [intOf]; omega
      · have Hf : Hid (findS x.symbols s = some X) := hide (find_hit Hno.out HX.out hq)
        have HZ := hide (HR0.out V1 hwv)
        go_wp2_with (first
          | refine wpList_load_at 42 (.tmp 7) rfl Tryz.underlying42 rfl Hi.out rfl rfl Hn.out HC.out ?_
          | (refine wpList_store_at 42 (.tmp 4) (.tmp 19) rfl Hi.out rfl rfl rfl Hn.out H1.out HZ.out (by decide) ?_; intro WF hP; have HP := hide hP; clear hP))
        have hW : Below w.heap.size w WF := (Hw.out V1 hwv).trans (HP.out.below (by omega))
        have hC := HP.out.cellsAt
        have x0 := hC 0 _ rfl
        have x1 := hC 1 _ rfl
        simp only [Nat.zero_add, Nat.add_zero] at x0 x1
        exact bodyPost_ret (v := .tuple #[.agg #[.string X.name, c1], .bool true]) (by simp [results, Tryz.results44, go_sem, x0, x1]) rfl
          ⟨[.string X.name, c1], Fk, by rw [Hf.out]; rfl, by rw [Hf.out]; exact (SymR.good D).below HR.out hW HlF.out, fun k hk => by have := HFk.out k hk; simp [this], hW⟩
    · have Hf : Hid (findS x.symbols s = none) := hide (find_no fun k y hy => Hno.out k y (by have := (List.getElem?_eq_some_iff.1 hy).1; omega) hy)
      have HZ := hide (HR0.out wr hBr)
      have H1z : Hid (∀ v ∈ ([.string ⟨#[]⟩, .slice none 0 0] : List Value), v.oneCell' = true) := hide (SymR.one (SymR.zero D w))
      go_wp2_with (refine wpList_store_at 42 (.tmp 4) (.tmp 21) rfl Hi.out rfl rfl rfl rfl H1z.out HZ.out (by decide) ?_; intro WF hP; have HP := hide hP; clear hP)
      have hW : Below w.heap.size w WF := (Hw.out wr hBr).trans (HP.out.below (by omega))
      have hC := HP.out.cellsAt
      have x0 := hC 0 _ rfl; have x1 := hC 1 _ rfl
      simp only [Nat.zero_add, Nat.add_zero] at x0 x1
      exact bodyPost_ret (v := .tuple #[.agg #[.string ⟨#[]⟩, .slice none 0 0], .bool false]) (by simp [results, Tryz.results44, go_sem, x0, x1]) rfl
        ⟨[.string ⟨#[]⟩, .slice none 0 0], [], by rw [Hf.out]; rfl, by rw [Hf.out]; exact SymR.zero D _, by simp, hW⟩
/-- A struct found in the memory that came in. -/
def FoundInRul (D : Nat) (F : List Nat) (w : World) (o : Option Rul) (en : Ending) (w' : World) : Prop :=
  ∃ us F', en = .returned (.tuple #[.agg (List.toArray us), .bool o.isSome]) ∧ RulR D w' (o.getD Rul.zero) us F' ∧ (∀ k ∈ F', k ∈ F) ∧ Below w.heap.size w w'
end Go.Proofs.YthlhhnnlbpecnaaGreat

/- A whole slice of plain things appended to an empty row, inside a region that draws its order. Plain: no program. -/
namespace Go.Proofs.YthlhhnnlbpecnaaGreat
set_option linter.unusedSimpArgs false
set_option linter.unusedVariables false
set_option maxRecDepth 100000
open Go.RowKit

theorem step_all {α : Type} {P : Program} {ops : Array Oper} {o : Oper} {a : Act} {K : Act → World → Prop} {Q : Exit → Act → World → Prop} {E : Prop} (hgd : o.guard = none) (s x : Operand) (t e : TypeId)
    (ho : o.op = .call { callee := .builtin .append, args := #[s, x], argTypes := #[t, t] }) (ht : P.underlying t = some (.slice e)) {z : Value} {size bytes : Nat}
    (hinfo : (P.info? e).map (fun i => (i.zero, i.size, i.bytes)) = some (some z, size, bytes)) (hzs : z.cells.size = size) (hsz : 0 < size) {R : CR α} (hR : Good size R) (hp : ∀ w x cs F, R w x cs F → F = []) (h1 : ∀ w x cs F, R w x cs F → ∀ v ∈ cs, v.oneCell' = true)
    (W : World) (xs : List α) (A : Option Addr) (cap : Nat) (F : List Nat) (hsl : SlR size R W xs (.slice A xs.length cap) F) (hs : a.eval s = .slice (some ⟨W.heap.size, 0, none⟩) 0 0) (hx : a.eval x = .slice A xs.length cap)
    (hn : xs.length ≤ 1099511627776) (hby : xs.length * bytes ≤ 140737488355328)
    (h : ∀ v' w', (∃ G, SlR size R w' xs v' G ∧ Fresh W.heap.size w' G) → Below W.heap.size W w' → K (a.put o.dst v') w') : if Region.wanted o (yielded ops a.tmps) = true then Oper.wp P o a (W.alloc (.cells #[] e)).drew K Q else E := by
  have hw : Region.wanted o (yielded ops a.tmps) = true := by simp [Region.wanted, hgd]
  rw [if_pos hw]
  obtain ⟨i0, hi, hz0, hz1, hz2⟩ := info_parts hinfo
  have hmade0 : (W.alloc (.cells #[] e)).ownsRow W.heap.size e size (.slice (some ⟨W.heap.size, 0, none⟩) 0 0) 0 [] := World.ownsRow_made W #[] 0 (Nat.le_refl _) (by simp [maxLen]) (by simp)
  have hmade : (W.alloc (.cells #[] e)).drew.ownsRow W.heap.size e size (.slice (some ⟨W.heap.size, 0, none⟩) 0 0) 0 [] := own_below hmade0 (Below.refl _ _).drew
  obtain ⟨A', cap', hv, hl, hm, hc⟩ := hsl
  injection hv with hA' _ hcap
  subst hA' hcap
  have hbd : Below W.heap.size W (W.alloc (.cells #[] e)).drew := ((Below.refl W.heap.size W).alloc (Nat.le_refl _) _).drew
  match A, hc with
  | none, hc =>
    have hx0 : xs = [] := by
      rcases hc with ⟨h0, _⟩ | ⟨b, off, F', h2, _⟩
      · exact h0
      · cases h2
    subst hx0
    have hcap0 : a.eval x = .slice none 0 cap := hx
    have hrun : (Builtin.append_ #[t, t] o.type #[.slice (some ⟨W.heap.size, 0, none⟩) 0 0, .slice none 0 cap]).run P (W.alloc (.cells #[] e)).drew = .ok (.slice (some ⟨W.heap.size, 0, none⟩) 0 0) (W.alloc (.cells #[] e)).drew := by
      simp [Builtin.append_, run_underlying ht, sizeOf, typeInfo, hi, Builtin.lenOf, Builtin.firstCells, loadCells, loadCellsFrom, storeCells]
    unfold Oper.wp
    simp [execOp, ho, resolve, invoke, builtin, hs, hx, hrun, Result.andThen]
    exact h _ _ ⟨[], ⟨_, 0, rfl, Nat.le_refl _, by simp [maxLen], .inl ⟨rfl, rfl⟩⟩, Fresh.nil _ _⟩ hbd
  | some ad, hc =>
    obtain ⟨cl, hcl, hcells, hel⟩ : ∃ cl, cl.length = xs.length * size ∧ (∀ j u, cl[j]? = some u → (W.alloc (.cells #[] e)).drew.cell? (ad.add j) = some u) ∧ ElL R W xs cl [] := by
      rcases hc with ⟨rfl, _⟩ | ⟨b, off, F', h2, hb, rfl, he⟩
      · exact ⟨[], by simp, (fun j u hu => by cases hu), rfl, rfl⟩
      · injection h2 with h2
        subst h2
        obtain ⟨cl, g1, g2, g3⟩ := he.toL hR
        have hF := g3.plain hp
        subst hF
        refine ⟨cl, g1, fun j u hu => ?_, g3⟩
        have e1 : (⟨b, off, none⟩ : Addr).add j = ⟨b, off + j, none⟩ := by
          unfold Addr.add
          split
          · rename_i h0; subst h0; rfl
          · rfl
        rw [e1]
        exact (hbd.cell (p := ⟨b, off + j, none⟩) hb).trans (g2 j u hu)
    refine wp_append_own _ s x t ho W.heap.size e i0 z size bytes ht hi hz0 hz1 hz2 hzs hsz _ 0 [] hs hmade ad xs.length cap cl hx hcl hcells (hel.one h1) (by unfold maxLen; omega) (by rw [Nat.zero_add]; exact hby) (by simp) ?_
    intro v' w' h2 h3 _
    rw [Nat.zero_add, List.nil_append] at h2
    have hW : Below W.heap.size W w' := hbd.grown h3 (by simp) (fun k hk => by simp only [Value.ownBlock, Option.some.injEq] at hk; omega)
    have hO : OwnS size R W.heap.size e w' xs v' [] := ⟨⟨cl, h2, hel.frame hR hW.size (by simp)⟩, Fresh.nil _ _, by simp⟩
    exact h v' w' (hO.slr hR) hW
theorem below_set2 {B g : Nat} {W0 w1 : World} {u v : Value} (h : Below B W0 w1) (hg : B ≤ g) : Below B W0 ((w1.setCell ⟨g, 0, none⟩ u).setCell ⟨g, 1, none⟩ v) :=
  Below.setCell (p := ⟨g, 1, none⟩) (Below.setCell (p := ⟨g, 0, none⟩) h hg u) hg v
end Go.Proofs.YthlhhnnlbpecnaaGreat

/- What the memory of a text is. Plain facts of the program. -/
namespace Go.Proofs.YthlhhnnlbpecnaaGreat
set_option linter.unusedSimpArgs false
set_option linter.unusedVariables false
set_option maxRecDepth 100000
theorem infoStr2 : (Tryz.prog.info? 9).map (fun i => (i.zero, i.size, i.bytes)) = some (some (.string ByteArray.empty), 1, 16) := by kernel_rfl
end Go.Proofs.YthlhhnnlbpecnaaGreat

/- slices.Clone at attributes and at texts; a symbol copied. Conditions: at most 2^20 elements. -/
namespace Go.Proofs.YthlhhnnlbpecnaaGreat
set_option linter.unusedSimpArgs false
set_option linter.unusedVariables false
set_option maxRecDepth 100000
open Go.RowKit Go.WideShapes
set_option linter.unusedVariables false

theorem AtrR.plain (D : Nat) : ∀ w x cs F, AtrR D w x cs F → F = [] := fun w x cs F h => h.2.2.2.2.2.2
theorem StrR.plain (D : Nat) : ∀ w x cs F, StrR D w x cs F → F = [] := fun w x cs F h => h.2.2
theorem infoAtr : (Tryz.prog.info? 44).map (fun i => (i.zero, i.size, i.bytes)) = some (some (.agg #[.string ByteArray.empty, .int .i64 0, .int .i64 0, .bool false]), 4, 40) := by kernel_rfl
theorem infoStr3 : (Tryz.prog.info? 9).map (fun i => (i.zero, i.size, i.bytes)) = some (some (.string ByteArray.empty), 1, 16) := by kernel_rfl
set_option maxRecDepth 100000 in
set_option maxHeartbeats 2000000 in
theorem s_l10Symbol (D : Nat) (x : Sym) (cs : List Value) (F : List Nat) (w : World) (h : SymR D w x cs F) (hbk : bulkSym D x ≤ 1048576) :
    Calls Tryz.prog 106 #[.agg cs.toArray] w fun en w' => ∃ us F', en = .returned (.agg (List.toArray us)) ∧ SymR D w' x us F' ∧ Fresh w.heap.size w' F' ∧ Below w.heap.size w w' := by
  obtain ⟨p0, p1, rfl⟩ := list2 ((SymR.good D).len h)
  obtain ⟨v1, F1, _, hk, h0, ⟨h1, g1⟩, rfl⟩ := h
  obtain rfl := Option.some.inj h0
  obtain rfl := Option.some.inj h1
  obtain ⟨A, cap, rfl, hlc, hm⟩ := g1.form
  unfold maxLen at hm
  have hln := bulk_attrs hbk
  have HF := hide (g1.lt (AtrR.good D))
  have Hg := hide g1
  have Hk := hide hk
  obtain ⟨C0, hR0, hz0, hw0⟩ := boxR w [.string x.name, .slice A x.attrs.length cap] [.string ⟨#[]⟩, .slice none 0 0] 42 42
  show Calls _ _ #[.agg #[.string x.name, .slice A x.attrs.length cap]] w _
  clear g1 h0 h1 hk
  go_enter Tryz.func106, Tryz.ntmps106
  go_wp2_with fail
  generalize (w.alloc (Obj.cells #[.string x.name, .slice A x.attrs.length cap] 42)).alloc (Obj.cells #[.string ⟨#[]⟩, .slice none 0 0] 42) = W0 at C0 hR0 hz0 hw0 ⊢
  have hn0 : w.heap.size + 2 ≤ W0.heap.size := by omega
  have hB0 : Below (w.heap.size + 1) W0 W0 := Below.refl _ _
  have e0 := cell_rule C0 (n := w.heap.size + 1) (by omega) 0 rfl
  have e1 := cell_rule C0 (n := w.heap.size + 1) (by omega) 1 rfl
  have hm1 : w.heap.size + 1 ≤ W0.heap.size := by omega
  have HR0 := hide hR0
  have Hw0 := hide hw0
  have Hg0 : Hid (SlR 4 (AtrR D) W0 x.attrs (.slice A x.attrs.length cap) F) := hide (Hg.out.below (AtrR.good D) hw0 HF.out)
  clear C0 hz0 hw0 hR0
  go_wp2_with fail
  go_region_held3 (fun W => Below (w.heap.size + 1) W0 W)
    (first | assumption | exact Below.drew (by assumption) | exact below_alloc hm1 _ (by assumption) | exact Below.drew (below_alloc hm1 _ (by assumption)) | exact below_set2 hS (Nat.le_refl _))
    ((refine step_all rfl (.tmp 5) (.tmp 7) 40 44 rfl Tryz.underlying40 infoAtr rfl (by decide) (AtrR.good D) (AtrR.plain D) (fun w x cs F h => AtrR.one h) W0 x.attrs A cap F Hg0.out rfl rfl (by omega) (by omega) ?_
      intro v1 w1 hG hB
      obtain ⟨A2, cap2, rfl, _, _⟩ : ∃ A2 cap2, v1 = .slice A2 x.attrs.length cap2 ∧ x.attrs.length ≤ cap2 ∧ cap2 ≤ maxLen := by
        obtain ⟨G, h1, _⟩ := hG
        exact h1.form
      have HG := hide hG
      have hS : Below (w.heap.size + 1) W0 w1 := hB.mono hm1
      have hr1 := blk_below HR0.out hB (by omega)
      have q0 := cell_at (i := 0) hr1 (by simp)
      have q1 := cell_at (i := 1) hr1 (by simp)
      simp only [Array.getD_eq_getD_getElem?, List.getElem?_toArray, List.getElem?_cons_succ, List.getElem?_cons_zero, Option.getD_some] at q0 q1
      have z0 := frozen_of_row w1 (w.heap.size + 1) 0 _ _ hr1
      have z1 := frozen_of_row w1 (w.heap.size + 1) 1 _ _ hr1
      have Hr1 := hide hr1
      have HB := hide hB
      clear hG hB hr1))
  go_wp2_with fail
  have hP := put_spec [.string x.name, .slice A2 x.attrs.length cap2] 0 _ _ Hr1.out (by simp)
  change bodyPost _ _ _ _ _ (putCells w1 (w.heap.size + 1) 0 [.string x.name, .slice A2 x.attrs.length cap2])
  generalize putCells w1 (w.heap.size + 1) 0 [.string x.name, .slice A2 x.attrs.length cap2] = WF at hP ⊢
  obtain ⟨x0, x1⟩ := hP.cellsAt.two0
  obtain ⟨G, h1, h2⟩ := HG.out
  have hfar : ∀ k ∈ G, WF.heap[k]? = w1.heap[k]? := fun k hk => hP.far k (by have := h2.from_ k hk; omega)
  have hW : Below w.heap.size w WF := (Hw0.out.trans (HB.out.mono (by omega))).trans (hP.below (by omega))
  exact bodyPost_ret (v := .agg #[.string x.name, .slice A2 x.attrs.length cap2]) (by simp [results, Tryz.results106, go_sem, x0, x1]) rfl
    ⟨[.string x.name, .slice A2 x.attrs.length cap2], G, rfl, ⟨_, G, rfl, Hk.out, rfl, ⟨rfl, h1.frame (AtrR.good D) hfar (by rw [hP.size]; exact Nat.le_refl _)⟩, rfl⟩, (h2.keep hfar).mono (by omega), hW⟩
end Go.Proofs.YthlhhnnlbpecnaaGreat
