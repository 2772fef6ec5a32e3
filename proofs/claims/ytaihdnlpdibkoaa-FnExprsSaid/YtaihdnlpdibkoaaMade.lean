/- Things made inside a region that draws its order, and one of them appended to a row that the call owns. Plain: no program. -/
import Derived.Test.YtaihdnlpdibkoaaInvL
import Derived.Test.YtaihdnlpdibkoaaOwnR
import Derived.Test.YtaihdnlpdibkoaaRegAl2
namespace Go.Proofs.Ytaihdnlpdibkoaa
set_option maxRecDepth 100000
open Go.RowKit
set_option linter.unusedVariables false

theorem mk_base {w w1 w2 : World} {b B : Nat} (h : w.grownBy w1 (some b)) (hg : Below B w1 w2) (hB : w.heap.size ≤ B) : w.grownBy w2 (some b) :=
  ⟨hg.os.trans h.os, hg.tape.trans h.tape, hg.output.trans h.output, Nat.le_trans h.size hg.size, fun k hk hne => (hg.block k (by omega)).trans (h.block k hk hne)⟩
theorem mk_cell {w w1 : World} {b k : Nat} {u : Value} (h : w.grownBy w1 (some b)) : w.grownBy (w1.setCell ⟨b, k, none⟩ u) (some b) :=
  ⟨h.os, h.tape, h.output, Nat.le_trans h.size (by simp), fun q hq hne => (heap_setCell_other _ _ _ _ (fun e => hne (by rw [e]))).trans (h.block q hq hne)⟩
theorem updL_all {l : Nat → Bool} {k z : Nat} (h : l z = true → ∀ i, i < z → l i = true) (hk : k ≠ z) : updL l k z = true → ∀ i, i < z → updL l k i = true := fun h1 i hi => updL_up (h (updL_ne h1 (fun e => hk e.symm)) i hi)
/-- A block known cell by cell. -/
theorem whole_of {w : World} {b : Nat} {old : Array Value} {cs : List Value} {T : TypeId} (h : w.heap[b]? = some (.cells old T (0, 0))) (hs : old.size = cs.length) (hc : CellsAt w b 0 cs) : w.heap[b]? = some (.cells cs.toArray T (0, 0)) := by
  have e : old = cs.toArray := by
    apply Array.ext
    · rw [hs]; simp
    · intro i h1 h2
      have hi : i < cs.length := by simpa using h2
      have h3 := hc i cs[i] (List.getElem?_eq_getElem hi)
      rw [cell_of_row _ _ _ _ _ _ h, Nat.zero_add, Array.getElem?_eq_getElem h1] at h3
      simpa using Option.some.inj h3
  rw [h, e]
section
variable {α : Type} {n n0 : Nat} {R : CR α} {W W' : World} {X : α} {x : Value}
/-- Cells made since n0 that hold X. -/
def Made (n0 : Nat) (R : CR α) (W : World) (X : α) (us : List Value) (G : List Nat) : Prop := R W X us G ∧ Fresh n0 W G
theorem Made.below (hR : Good n R) {us : List Value} {G : List Nat} (h : Made n0 R W X us G) (hb : Below W.heap.size W W') : Made n0 R W' X us G := ⟨hR.below h.1 hb h.2.lt, h.2.below hb⟩
def AgM (n0 : Nat) (R : CR α) (W : World) (X : α) (x : Value) : Prop := ∃ us G, x = .agg (List.toArray us) ∧ Made n0 R W X us G
def SlM (n0 : Nat) (R : CR α) (T : TypeId) (W : World) (X : α) (x : Value) : Prop := ∃ g us G, x = .slice (some ⟨g, 0, none⟩) 1 1 ∧ New n0 W g (.cells (List.toArray us) T (0, 0)) ∧ Made n0 R W X us G
theorem AgM.mono (hR : Good n R) (s : Below W.heap.size W W') (h : AgM n0 R W X x) : AgM n0 R W' X x := h.imp fun _ h => h.imp fun _ h => ⟨h.1, h.2.below hR s⟩
theorem SlM.mono {T : TypeId} (hR : Good n R) (s : Below W.heap.size W W') (h : SlM n0 R T W X x) : SlM n0 R T W' X x := h.imp fun _ h => h.imp fun _ h => h.imp fun _ h => ⟨h.1, Stay.below s _ _ h.2.1, h.2.2.below hR s⟩
theorem AgM.monoC {l : Nat → Bool} {k z : Nat} (hR : Good n R) (s : Below W.heap.size W W') (h : l z = false → AgM n0 R W X x) : updL l k z = false → AgM n0 R W' X x := fun h1 => (h (updL_f h1)).mono hR s
theorem SlM.monoC {T : TypeId} {l : Nat → Bool} {k z : Nat} (hR : Good n R) (s : Below W.heap.size W W') (h : l z = false → SlM n0 R T W X x) : updL l k z = false → SlM n0 R T W' X x := fun h1 => (h (updL_f h1)).mono hR s
/-- Two of them, in blocks of their own. -/
def Two (n0 : Nat) (R : CR α) (W : World) (X Y : α) (x y : Value) : Prop := ∃ us G us' G', x = .agg (List.toArray us) ∧ y = .agg (List.toArray us') ∧ Made n0 R W X us G ∧ Made n0 R W Y us' G' ∧ ∀ k ∈ G, k ∉ G'
theorem Two.mono {Y : α} {y : Value} (hR : Good n R) (s : Below W.heap.size W W') (h : Two n0 R W X Y x y) : Two n0 R W' X Y x y := by
  obtain ⟨us, G, us', G', h1, h2, h3, h4, h5⟩ := h
  exact ⟨us, G, us', G', h1, h2, h3.below hR s, h4.below hR s, h5⟩
theorem Two.left {Y : α} {y : Value} {us : List Value} {G : List Nat} (hR : Good n R) (hy : AgM n0 R W Y y) (hb : Below W.heap.size W W') (hx : R W' X us G) (hG : Fresh W.heap.size W' G) (hn : n0 ≤ W.heap.size) : Two n0 R W' X Y (.agg (List.toArray us)) y := by
  obtain ⟨us', G', rfl, h⟩ := hy
  exact ⟨us, G, us', G', rfl, rfl, ⟨hx, hG.mono hn⟩, h.below hR hb, fun k h1 h2 => by have := hG.from_ k h1; have := h.2.lt k h2; omega⟩
theorem Two.right {Y : α} {us' : List Value} {G' : List Nat} (hR : Good n R) (hx : AgM n0 R W X x) (hb : Below W.heap.size W W') (hy : R W' Y us' G') (hG : Fresh W.heap.size W' G') (hn : n0 ≤ W.heap.size) : Two n0 R W' X Y x (.agg (List.toArray us')) := by
  obtain ⟨us, G, rfl, h⟩ := hx
  exact ⟨us, G, us', G', rfl, rfl, h.below hR hb, ⟨hy, hG.mono hn⟩, fun k h1 h2 => by have := hG.from_ k h2; have := h.2.lt k h1; omega⟩
/-- A copied row made since; such a row and a new block beside it. -/
def ClM (n0 n : Nat) (R : CR α) (W : World) (xs : List α) (x : Value) : Prop := ∃ A cap G, x = .slice A xs.length cap ∧ SlR n R W xs x G ∧ Fresh n0 W G
def ClB (n0 n : Nat) (R : CR α) (W : World) (xs : List α) (zs : Array Value) (T : TypeId) (x y : Value) : Prop := ∃ A cap G b, x = .slice A xs.length cap ∧ y = .pointer (some ⟨b, 0, none⟩) ∧ SlR n R W xs x G ∧ Fresh n0 W G ∧ New n0 W b (.cells zs T (0, 0)) ∧ b ∉ G
theorem SlR.belowF {xs : List α} {G : List Nat} (hR : Good n R) (h : SlR n R W xs x G) (hf : Fresh n0 W G) (s : Below W.heap.size W W') : SlR n R W' xs x G := h.below hR s hf.lt
theorem ClM.mono {xs : List α} (hR : Good n R) (s : Below W.heap.size W W') (h : ClM n0 n R W xs x) : ClM n0 n R W' xs x := by
  obtain ⟨A, cap, G, h1, h2, h3⟩ := h
  exact ⟨A, cap, G, h1, h2.belowF hR h3 s, h3.below s⟩
theorem PtN.monoB {cs : Array Value} {T : TypeId} {off : Nat} (s : Below W.heap.size W W') (h : PtN n0 W x cs T off) : PtN n0 W' x cs T off := PtN.mono (Stay.below s) h
theorem ClB.mono {xs : List α} {zs : Array Value} {T : TypeId} {y : Value} (hR : Good n R) (s : Below W.heap.size W W') (h : ClB n0 n R W xs zs T x y) : ClB n0 n R W' xs zs T x y := by
  obtain ⟨A, cap, G, b, h1, h2, h3, h4, h5, h6⟩ := h
  exact ⟨A, cap, G, b, h1, h2, h3.belowF hR h4 s, h4.below s, Stay.below s _ _ h5, h6⟩
theorem ClB.left {xs : List α} {zs : Array Value} {T : TypeId} {y : Value} {A : Option Addr} {cap : Nat} {G : List Nat} (hR : Good n R) (hy : PtN n0 W y zs T 0) (hb : Below W.heap.size W W') (hx : SlR n R W' xs (.slice A xs.length cap) G) (hG : Fresh W.heap.size W' G) (hn : n0 ≤ W.heap.size) : ClB n0 n R W' xs zs T (.slice A xs.length cap) y := by
  obtain ⟨b, rfl, h⟩ := hy
  exact ⟨A, cap, G, b, rfl, rfl, hx, hG.mono hn, Stay.below hb _ _ h, fun hk => by have := hG.from_ b hk; have := h.lt; omega⟩
theorem ClB.right {xs : List α} {zs : Array Value} {T : TypeId} (hR : Good n R) (hx : ClM n0 n R W xs x) (hn : n0 ≤ W.heap.size) : ClB n0 n R (W.alloc (.cells zs T)) xs zs T x (.pointer (some ⟨W.heap.size, 0, none⟩)) := by
  obtain ⟨A, cap, G, h1, h2, h3⟩ := hx
  have s : Below W.heap.size W (W.alloc (.cells zs T)) := (Below.refl _ _).alloc (Nat.le_refl _) _
  exact ⟨A, cap, G, _, h1, rfl, h2.belowF hR h3 s, h3.below s, New.made hn _ _, fun hk => Nat.lt_irrefl _ (h3.lt _ hk)⟩
end
/-- A thing made since appended to a row that the call owned before. -/
theorem step_ownQ {α : Type} {P : Program} {ops : Array Oper} {o : Oper} {a : Act} {K : Act → World → Prop} {Q : Exit → Act → World → Prop} {E : Prop} (hgd : o.guard = none) (s x : Operand) (t e : TypeId)
    (ho : o.op = .call { callee := .builtin .append, args := #[s, x], argTypes := #[t, t] }) (ht : P.underlying t = some (.slice e)) {z : Value} {size bytes : Nat}
    (hinfo : (P.info? e).map (fun i => (i.zero, i.size, i.bytes)) = some (some z, size, bytes)) (hzs : z.cells.size = size) (hsz : 0 < size) {R : CR α} (hR : Good size R) (n0 : Nat) (W2 : World) (base : Nat) (v : Value) (xs : List α) (F : List Nat)
    (hown : OwnS size R base e W2 xs v F) (hs : a.eval s = v) (hF : ∀ k ∈ F, k < n0) (hv : ∀ k, v.ownBlock = some k → k < n0) (y : α) (ys : List Value) (G : List Nat) (hy : Made n0 R W2 y ys G) (hy1 : ∀ u ∈ ys, u.oneCell' = true) (g : Nat)
    (hx : a.eval x = .slice (some ⟨g, 0, none⟩) 1 1) (hg : New n0 W2 g (.cells ys.toArray e (0, 0)))
    (hn : xs.length + 1 ≤ 1099511627776) (hby : (xs.length + 1) * bytes ≤ 140737488355328) (hbase : base ≤ n0)
    (hK : ∀ v' w', OwnS size R base e w' (xs ++ [y]) v' (F ++ G) → Below base W2 w' → W2.grownBy w' v.ownBlock → K (a.put o.dst v') w') :
    if Region.wanted o (yielded ops a.tmps) = true then Oper.wp P o a W2 K Q else E := by
  have hw : Region.wanted o (yielded ops a.tmps) = true := by simp [Region.wanted, hgd]
  rw [if_pos hw]
  obtain ⟨i0, hi, hz0, hz1, hz2⟩ := info_parts hinfo
  have hlen := hR.len hy.1
  have hgn := hg.1
  have hglt := hg.lt
  have hblk := hown.blk
  obtain ⟨⟨cl, hrow, hel⟩, hf, hoff⟩ := hown
  have hcells : ∀ j u, ys[j]? = some u → W2.cell? ((⟨g, 0, none⟩ : Addr).add j) = some u := fun j u hu => by
    have e1 : (⟨g, 0, none⟩ : Addr).add j = ⟨g, j, none⟩ := by
      unfold Addr.add
      split
      · rename_i h0; subst h0; rfl
      · rw [show (0 : Nat) + j = j by omega]
    rw [e1, cell_of_row _ _ _ _ _ _ hg.2]
    simpa using hu
  obtain ⟨v', w', hr, h2, h3, h4⟩ := run_append_where (P := P) W2 base t o.type e i0 z size bytes ht hi hz0 hz1 hz2 hzs hsz v xs.length cl hrow ⟨g, 0, none⟩ 1 1 ys (by omega) hcells hy1 (by unfold maxLen; omega) hby (by omega)
  have hblkA : ∀ k, k < W2.heap.size → v.ownBlock ≠ some k → w'.heap[k]? = W2.heap[k]? := fun k hk hne => h3.block k hk (fun he => hne he.symm)
  have hF' : ∀ k ∈ F, w'.heap[k]? = W2.heap[k]? := fun k hk => hblkA k (hf.lt k hk) (hoff k hk)
  have hG' : ∀ k ∈ G, w'.heap[k]? = W2.heap[k]? := fun k hk => hblkA k (hy.2.lt k hk) fun he => by
    have h5 := hv k he
    have h6 := hy.2.from_ k hk
    omega
  have hres : OwnS size R base e w' (xs ++ [y]) v' (F ++ G) := by
    refine ⟨⟨cl ++ ys, by rw [List.length_append]; exact h2, ElL.snoc (hR.frame hy.1 hG' h3.size) (hel.frame hR h3.size hF')⟩, (hf.keep hF').append (hy.2.keep hG') hF hbase, fun k hk he => ?_⟩
    rcases h4 k he with h5 | h5
    · rcases List.mem_append.1 hk with hk | hk
      · exact hoff k hk h5
      · have := hv k h5; have := hy.2.from_ k hk; omega
    · rcases List.mem_append.1 hk with hk | hk
      · have := hf.lt k hk; omega
      · have := hy.2.lt k hk; omega
  have hbl : Below base W2 w' := (Below.refl base W2).grown h3 (by omega) fun k hk => (hblk k hk).1
  have hfin := hK v' w' hres hbl h3
  revert hr
  intro hr
  unfold Oper.wp execOp
  simp only [ho, resolve, invoke, builtin, Sem.run_bind, Sem.run_pure, Result.andThen_ok, List.map_toArray, List.map_cons, List.map_nil, hs, hx, hr]
  exact hfin
end Go.Proofs.Ytaihdnlpdibkoaa
