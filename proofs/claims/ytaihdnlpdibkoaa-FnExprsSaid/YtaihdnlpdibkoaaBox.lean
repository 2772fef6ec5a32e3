/- Boxes of a call's own: a parameter's and the result's; whole slices appended to an empty row. Plain: no program. -/
import Derived.Test.YtaihdnlpdibkoaaOwn
import Derived.Test.YtaihdnlpdibkoaaWhole
import Derived.Laws.AppendOwnNone
namespace Go.Proofs.Ytaihdnlpdibkoaa
set_option maxRecDepth 100000
open Go.RowKit

theorem boxR (w : World) (a z : List Value) (ta tz : TypeId) :
    CellsAt ((w.alloc (.cells a.toArray ta)).alloc (.cells z.toArray tz)) w.heap.size 0 a ∧ ((w.alloc (.cells a.toArray ta)).alloc (.cells z.toArray tz)).heap[w.heap.size + 1]? = some (.cells z.toArray tz (0, 0)) ∧
      ((w.alloc (.cells a.toArray ta)).alloc (.cells z.toArray tz)).heap.size = w.heap.size + 2 ∧ Below w.heap.size w ((w.alloc (.cells a.toArray ta)).alloc (.cells z.toArray tz)) := by
  obtain ⟨h1, h2, h3, h4⟩ := boxes2 w a z ta tz
  have h5 := heap_alloc_new (w.alloc (.cells a.toArray ta)) (.cells z.toArray tz)
  rw [World.size_alloc] at h5
  exact ⟨h1, h5, h3, h4⟩
/-- Two boxes of parameters ahead of the result's. -/
theorem boxR2 (w : World) (a b z : List Value) (ta tb tz : TypeId) :
    CellsAt (((w.alloc (.cells a.toArray ta)).alloc (.cells b.toArray tb)).alloc (.cells z.toArray tz)) w.heap.size 0 a ∧ CellsAt (((w.alloc (.cells a.toArray ta)).alloc (.cells b.toArray tb)).alloc (.cells z.toArray tz)) (w.heap.size + 1) 0 b ∧
      (((w.alloc (.cells a.toArray ta)).alloc (.cells b.toArray tb)).alloc (.cells z.toArray tz)).heap[w.heap.size + 2]? = some (.cells z.toArray tz (0, 0)) ∧
      (((w.alloc (.cells a.toArray ta)).alloc (.cells b.toArray tb)).alloc (.cells z.toArray tz)).heap.size = w.heap.size + 3 ∧ Below w.heap.size w (((w.alloc (.cells a.toArray ta)).alloc (.cells b.toArray tb)).alloc (.cells z.toArray tz)) := by
  obtain ⟨h1, h2, _, h3, h4⟩ := boxes3 w a b z ta tb tz
  have h5 := heap_alloc_new ((w.alloc (.cells a.toArray ta)).alloc (.cells b.toArray tb)) (.cells z.toArray tz)
  rw [World.size_alloc, World.size_alloc] at h5
  exact ⟨h1, h2, h5, h3, h4⟩
/-- A value of one or more cells stored into an older block. -/
theorem wpList_store_any {P : Program} {ops : Array Oper} {rest : List Oper} {o : Oper} {a : Act} {w : World} {Q : Exit → Act → World → Prop} (ty : TypeId) (x y : Operand) (ho : o.op = .store ty x y)
    {n : Nat} {cs : List Value} {v : Value} (hv : v.cells = cs.toArray) (hi : (P.info? ty).map (·.size) = some n) (hw : Region.wanted o (yielded ops a.tmps) = true) (hy : a.eval y = v) {g off : Nat} (hx : a.eval x = .pointer (some ⟨g, off, none⟩)) (hn : cs.length = n) (h1 : ∀ v ∈ cs, v.oneCell' = true)
    {old : Array Value} {t : TypeId} (hg : w.heap[g]? = some (.cells old t (0, 0))) (hfit : off + n ≤ old.size)
    (h : ∀ w', Put w g off cs old t w' → wpList P ops Q rest (a.put o.dst undef) w') : wpList P ops Q (o :: rest) a w :=
  BigFrame.wpList_want hw fun K hK => by
    subst hn
    have hst := run_storeCells_at P g off t cs 0 old w hg (by simpa using hfit) h1
    simp only [Nat.add_zero] at hst
    have hr : (storeVar ty ⟨g, off, none⟩ v).run P w = .ok () (w.setRow g (old.toList.take off ++ cs ++ old.toList.drop (off + cs.length)).toArray) := by
      cases hq : P.info? ty with
      | none => simp [hq] at hi
      | some i =>
        have hs : i.size = cs.length := by simpa [hq] using hi
        simp [storeVar, sizeOf, typeInfo, hq, hv, hs, hst]
    unfold Oper.wp execOp
    simp only [ho, hx, hy, Instr.storeAt, Instr.sureAddr, Sem.run_bind, Sem.run_pure, Result.andThen_ok, hr]
    exact hK _ _ (h _ (Put.of_row hg hfit))
section
variable {α : Type} {n : Nat} {R : CR α}
/-- The cells of a row's elements, one behind another. -/
theorem ElR.toL (hR : Good n R) {w : World} {b : Nat} : ∀ {xs : List α} {off : Nat} {F : List Nat}, ElR n R w b off xs F → ∃ cl, cl.length = xs.length * n ∧ CellsAt w b off cl ∧ ElL R w xs cl F
  | [], _, _, h => ⟨[], by simp, (fun j u hu => by cases hu), rfl, h⟩
  | x :: r, off, F, h => by
    obtain ⟨cs, F1, F2, rfl, h1, h2, h3⟩ := h
    obtain ⟨cl, hl, hc, he⟩ := ElR.toL hR h3
    have hn := hR.len h2
    refine ⟨cs ++ cl, by rw [List.length_append, hn, hl, List.length_cons, Nat.add_mul]; omega, fun j u hu => ?_, cs, cl, F1, F2, rfl, rfl, h2, he⟩
    by_cases hj : j < cs.length
    · rw [List.getElem?_append_left hj] at hu
      exact h1 j u hu
    · rw [List.getElem?_append_right (by omega)] at hu
      have := hc (j - cs.length) u hu
      rwa [show off + n + (j - cs.length) = off + j by omega] at this
theorem ElL.one (h1 : ∀ w x cs F, R w x cs F → ∀ v ∈ cs, v.oneCell' = true) {w : World} : ∀ {xs : List α} {cl : List Value} {F : List Nat}, ElL R w xs cl F → ∀ v ∈ cl, v.oneCell' = true
  | [], _, _, h => by rw [h.1]; simp
  | x :: r, _, _, h => by
    obtain ⟨cs, cr, F1, F2, rfl, rfl, g1, g2⟩ := h
    intro v hv
    rcases List.mem_append.1 hv with hv | hv
    · exact h1 _ _ _ _ g1 v hv
    · exact ElL.one h1 g2 v hv
theorem ElL.plain (hp : ∀ w x cs F, R w x cs F → F = []) {w : World} : ∀ {xs : List α} {cl : List Value} {F : List Nat}, ElL R w xs cl F → F = []
  | [], _, _, h => h.2
  | x :: r, _, _, h => by
    obtain ⟨cs, cr, F1, F2, rfl, rfl, g1, g2⟩ := h
    rw [hp _ _ _ _ g1, ElL.plain hp g2]
    rfl
end
/-- A whole slice of plain things appended to a row that was made last. -/
theorem app_all {α : Type} {P : Program} {ops : Array Oper} {rest : List Oper} {o : Oper} {a : Act} {Q : Exit → Act → World → Prop} (hgd : o.guard = none) (s x : Operand) (t e : TypeId)
    (ho : o.op = .call { callee := .builtin .append, args := #[s, x], argTypes := #[t, t] }) (ht : P.underlying t = some (.slice e)) {z : Value} {size bytes : Nat}
    (hinfo : (P.info? e).map (fun i => (i.zero, i.size, i.bytes)) = some (some z, size, bytes)) (hzs : z.cells.size = size) (hsz : 0 < size) {R : CR α} (hR : Good size R) (hp : ∀ w x cs F, R w x cs F → F = []) (h1 : ∀ w x cs F, R w x cs F → ∀ v ∈ cs, v.oneCell' = true)
    (W : World) (xs : List α) (A : Option Addr) (cap : Nat) (F : List Nat) (hsl : SlR size R W xs (.slice A xs.length cap) F) (hs : a.eval s = .slice (some ⟨W.heap.size, 0, none⟩) 0 0) (hx : a.eval x = .slice A xs.length cap)
    (hA : xs ≠ [] ∨ A.isSome = true) (hn : xs.length ≤ 1099511627776) (hby : xs.length * bytes ≤ 140737488355328)
    (h : ∀ v' w', (∃ G, SlR size R w' xs v' G ∧ Fresh W.heap.size w' G) → Below W.heap.size W w' → wpList P ops Q rest (a.put o.dst v') w') : wpList P ops Q (o :: rest) a (W.alloc (.cells #[] e)) := by
  obtain ⟨i0, hi, hz0, hz1, hz2⟩ := info_parts hinfo
  have hmade : (W.alloc (.cells #[] e)).ownsRow W.heap.size e size (.slice (some ⟨W.heap.size, 0, none⟩) 0 0) 0 [] := World.ownsRow_made W #[] 0 (Nat.le_refl _) (by simp [maxLen]) (by simp)
  obtain ⟨A', cap', hv, hl, hm, hc⟩ := hsl
  injection hv with hA' _ hcap
  subst hA' hcap
  obtain ⟨ad, rfl⟩ : ∃ ad, A = some ad := by
    rcases hA with h | h
    · rcases hc with ⟨h0, _⟩ | ⟨b, off, F', h2, _⟩
      · exact absurd h0 h
      · exact ⟨_, h2⟩
    · exact Option.isSome_iff_exists.1 h
  obtain ⟨cl, hcl, hcells, hel⟩ : ∃ cl, cl.length = xs.length * size ∧ (∀ j u, cl[j]? = some u → (W.alloc (.cells #[] e)).cell? (ad.add j) = some u) ∧ ElL R W xs cl [] := by
    rcases hc with ⟨rfl, _⟩ | ⟨b, off, F', h2, hb, rfl, he⟩
    · exact ⟨[], by simp, (fun j u hu => by cases hu), rfl, rfl⟩
    · injection h2 with h2
      subst h2
      obtain ⟨cl, g1, g2, g3⟩ := he.toL hR
      have hF := g3.plain hp
      subst hF
      refine ⟨cl, g1, fun j u hu => ?_, g3⟩
      have e1 : (⟨b, off, none⟩ : Addr).add j = ⟨b, off + j, none⟩ := by
        unfold Addr.add
        split
        · rename_i h0; subst h0; rfl
        · rfl
      rw [e1]
      exact (((Below.refl W.heap.size W).alloc (Nat.le_refl _) _).cell (p := ⟨b, off + j, none⟩) hb).trans (g2 j u hu)
  refine wpList_append_own _ hgd s x t ho W.heap.size e i0 z size bytes ht hi hz0 hz1 hz2 hzs hsz _ 0 [] hs hmade ad xs.length cap cl hx hcl hcells (hel.one h1) (by unfold maxLen; omega) (by rw [Nat.zero_add]; exact hby) (by simp) ?_
  intro v' w' h2 h3 _
  rw [Nat.zero_add, List.nil_append] at h2
  have hW : Below W.heap.size W w' := ((Below.refl W.heap.size W).alloc (Nat.le_refl _) _).grown h3 (by simp) (fun k hk => by simp only [Value.ownBlock, Option.some.injEq] at hk; omega)
  have hO : OwnS size R W.heap.size e w' xs v' [] := ⟨⟨cl, h2, hel.frame hR hW.size (by simp)⟩, Fresh.nil _ _, by simp⟩
  exact h v' w' (hO.slr hR) hW
end Go.Proofs.Ytaihdnlpdibkoaa
