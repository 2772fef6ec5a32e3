/- Several texts of one proof in one file: Rules as lines of text: what the lines are, and how long. Plain: no program. Boxes of a call's own: a parameter's and the result's; whole slices appended to an empty row. Plain: no program. A row of texts that a call owns, one text appended inside a region that draws its order. Plain: no program. Expressions as text: the reference. Expressions as text: the program. A struct's box that is laid anywhere among a region's calls: what is known of it. Plain. Conditions: each theorem names its own. -/
import Derived.Test.YtjddmboaaebbiaaGreatDoorGxaf
import Derived.Test.YtjddmboaaebbiaaGreatDoorGxag
import Derived.Test.YtjddmboaaebbiaaGreatDoorGxaj
import Derived.Test.YtjddmboaaebbiaaGreatDoorGxaa
import Derived.Test.YtjddmboaaebbiaaGreatDoorGxai
import Derived.Laws.AppendOwnNone
import Derived.Deep.RegionHeld3
import Derived.Deep.QuietTactic
import Derived.BigQuiet

/- Rules as lines of text: what the lines are, and how long. Plain: no program. -/
namespace Go.Proofs.YtjddmboaaebbiaaGreatDoor
set_option linter.unusedSimpArgs false
set_option linter.unusedVariables false
set_option maxRecDepth 100000
open Go.RowKit Go.Lib
set_option linter.unusedVariables false

def eqT (D : Nat) (e : Eqn) : ByteArray := ⟨#[101, 113, 32, 36]⟩ ++ num e.at_.pos ++ ⟨#[46]⟩ ++ e.at_.name ++ ⟨#[32, 58, 61, 32]⟩ ++ txE D e.expr
def conT (D : Nat) (c : Con) : ByteArray := ⟨#[112, 117, 116, 32]⟩ ++ c.symbol ++ ⟨#[46]⟩ ++ c.name ++ ⟨#[32, 111, 102, 32]⟩ ++ txE D c.target ++ ⟨#[32, 58, 61, 32]⟩ ++ txE D c.value
def hdT (r : Rul) (j : Nat) : ByteArray := (r.right.take j).foldl (fun o s => o ++ (⟨#[32]⟩ ++ s)) (⟨#[114, 117, 108, 101, 32]⟩ ++ r.name ++ ⟨#[32]⟩ ++ r.left ++ ⟨#[32, 58]⟩)
theorem hdT_next {r : Rul} {j : Nat} {s : ByteArray} (hx : r.right[j]? = some s) : hdT r (j + 1) = hdT r j ++ (⟨#[32]⟩ ++ s) := by
  unfold hdT
  rw [take_snoc hx, List.foldl_append]
  rfl
def headT (r : Rul) : ByteArray := if r.lit then hdT r r.right.length ++ ⟨#[32, 108, 105, 116]⟩ else hdT r r.right.length
def linesR (D : Nat) (r : Rul) (j k : Nat) : List ByteArray := headT r :: ((r.eqs.take j).map (eqT D) ++ (r.cons.take k).map (conT D))
def fmtR (D : Nat) (r : Rul) : List ByteArray := if validRul D r then linesR D r r.eqs.length r.cons.length else []
theorem linesR_eq {D : Nat} {r : Rul} {j : Nat} {e : Eqn} (hx : r.eqs[j]? = some e) : linesR D r (j + 1) 0 = linesR D r j 0 ++ [eqT D e] := by
  unfold linesR
  rw [take_snoc hx]
  simp
theorem linesR_con {D : Nat} {r : Rul} {j k : Nat} {c : Con} (hx : r.cons[k]? = some c) : linesR D r j (k + 1) = linesR D r j k ++ [conT D c] := by
  unfold linesR
  rw [take_snoc hx]
  simp
theorem linesR_len (D : Nat) (r : Rul) (j k : Nat) : (linesR D r j k).length ≤ 1 + j + k := by
  unfold linesR
  have h1 := List.length_take_le j r.eqs
  have h2 := List.length_take_le k r.cons
  simp only [List.length_cons, List.length_append, List.length_map]
  omega
structure RulV (D : Nat) (r : Rul) : Prop where
  name : validN r.name = true
  left : validN r.left = true
  kids : r.right.length ≤ 3
  puts : r.cons.length ≤ 2
  right : ∀ x ∈ r.right, validN x = true
  eqs : ∀ e ∈ r.eqs, eqnOk D r.right.length e = true
  cons : ∀ c ∈ r.cons, conOk D r.right.length c = true
theorem RulV.of {D : Nat} {r : Rul} (h : validRul D r = true) : RulV D r := by
  unfold validRul at h
  simp only [Bool.and_eq_true, Bool.not_eq_true', decide_eq_false_iff_not, List.all_eq_true] at h
  obtain ⟨⟨⟨⟨⟨⟨h1, h2⟩, h3⟩, h4⟩, h5⟩, h6⟩, h7⟩ := h
  exact ⟨h1, h2, by omega, by omega, h5, h6, h7⟩
theorem hdT_size {D : Nat} {r : Rul} (h : RulV D r) (j : Nat) : (hdT r j).size ≤ 60 := by
  have h1 := nameV_size h.name
  have h2 := nameV_size h.left
  have h3 := fold_size (f := fun s => ⟨#[32]⟩ ++ s) (k := 9) (r.right.take j) (⟨#[114, 117, 108, 101, 32]⟩ ++ r.name ++ ⟨#[32]⟩ ++ r.left ++ ⟨#[32, 58]⟩) fun a ha => by
    have := nameV_size (h.right a (List.mem_of_mem_take ha))
    simp only [ByteArray.size_append, sz_l, List.length_cons, List.length_nil]
    omega
  have h4 : (r.right.take j).length ≤ 3 := Nat.le_trans (List.length_take_le' _ _) h.kids
  simp only [ByteArray.size_append, sz_l, List.length_cons, List.length_nil] at h3
  unfold hdT
  omega
theorem headT_size {D : Nat} {r : Rul} (h : RulV D r) : (headT r).size ≤ 64 := by
  have := hdT_size h r.right.length
  unfold headT
  split
  all_goals try simp only [ByteArray.size_append, sz_l, List.length_cons, List.length_nil]
  all_goals omega
theorem fits_parts {D : Nat} {e : Ex} {n : Int} (h : fitsE D e n = true) : validE D e = true ∧ cntE D e ≤ 24 ∧ allE okN D e = true := by
  unfold fitsE at h
  simp only [Bool.and_eq_true] at h
  have hv := h.1
  unfold validE at hv
  simp only [Bool.and_eq_true, decide_eq_true_eq] at hv
  exact ⟨h.1, hv.1, hv.2.2⟩
theorem eqT_size {D : Nat} {e : Eqn} (h : (txE D e.expr).size ≤ 9600) (hn : validN e.at_.name = true) (p0 : -9223372036854775808 ≤ e.at_.pos) (p1 : e.at_.pos ≤ 9223372036854775807) : (eqT D e).size ≤ 9700 := by
  have h1 := nameV_size hn
  have h2 := num_size p0 p1
  unfold eqT
  simp only [ByteArray.size_append, sz_l, List.length_cons, List.length_nil]
  omega
theorem conT_size {D : Nat} {c : Con} (h : (txE D c.target).size ≤ 9600) (h' : (txE D c.value).size ≤ 9600) (hs : validN c.symbol = true) (hn : validN c.name = true) : (conT D c).size ≤ 19300 := by
  have h1 := nameV_size hn
  have h2 := nameV_size hs
  unfold conT
  simp only [ByteArray.size_append, sz_l, List.length_cons, List.length_nil]
  omega
end Go.Proofs.YtjddmboaaebbiaaGreatDoor

/- Boxes of a call's own: a parameter's and the result's; whole slices appended to an empty row. Plain: no program. -/
namespace Go.Proofs.YtjddmboaaebbiaaGreatDoor
set_option linter.unusedSimpArgs false
set_option linter.unusedVariables false
set_option maxRecDepth 100000
open Go.RowKit

theorem boxR (w : World) (a z : List Value) (ta tz : TypeId) :
    CellsAt ((w.alloc (.cells a.toArray ta)).alloc (.cells z.toArray tz)) w.heap.size 0 a ∧ ((w.alloc (.cells a.toArray ta)).alloc (.cells z.toArray tz)).heap[w.heap.size + 1]? = some (.cells z.toArray tz (0, 0)) ∧
      ((w.alloc (.cells a.toArray ta)).alloc (.cells z.toArray tz)).heap.size = w.heap.size + 2 ∧ Below w.heap.size w ((w.alloc (.cells a.toArray ta)).alloc (.cells z.toArray tz)) := by
  obtain ⟨h1, h2, h3, h4⟩ := boxes2 w a z ta tz
  have h5 := heap_alloc_new (w.alloc (.cells a.toArray ta)) (.cells z.toArray tz)
  rw [World.size_alloc] at h5
  exact ⟨h1, h5, h3, h4⟩
/-- Two boxes of parameters ahead of the result's. -/
theorem boxR2 (w : World) (a b z : List Value) (ta tb tz : TypeId) :
    CellsAt (((w.alloc (.cells a.toArray ta)).alloc (.cells b.toArray tb)).alloc (.cells z.toArray tz)) w.heap.size 0 a ∧ CellsAt (((w.alloc (.cells a.toArray ta)).alloc (.cells b.toArray tb)).alloc (.cells z.toArray tz)) (w.heap.size + 1) 0 b ∧
      (((w.alloc (.cells a.toArray ta)).alloc (.cells b.toArray tb)).alloc (.cells z.toArray tz)).heap[w.heap.size + 2]? = some (.cells z.toArray tz (0, 0)) ∧
      (((w.alloc (.cells a.toArray ta)).alloc (.cells b.toArray tb)).alloc (.cells z.toArray tz)).heap.size = w.heap.size + 3 ∧ Below w.heap.size w (((w.alloc (.cells a.toArray ta)).alloc (.cells b.toArray tb)).alloc (.cells z.toArray tz)) := by
  obtain ⟨h1, h2, _, h3, h4⟩ := boxes3 w a b z ta tb tz
  have h5 := heap_alloc_new ((w.alloc (.cells a.toArray ta)).alloc (.cells b.toArray tb)) (.cells z.toArray tz)
  rw [World.size_alloc, World.size_alloc] at h5
  exact ⟨h1, h2, h5, h3, h4⟩
/-- A value of one or more cells stored into an older block. -/
theorem wpList_store_any {P : Program} {ops : Array Oper} {rest : List Oper} {o : Oper} {a : Act} {w : World} {Q : Exit → Act → World → Prop} (ty : TypeId) (x y : Operand) (ho : o.op = .store ty x y)
    {n : Nat} {cs : List Value} {v : Value} (hv : v.cells = cs.toArray) (hi : (P.info? ty).map (·.size) = some n) (hw : Region.wanted o (yielded ops a.tmps) = true) (hy : a.eval y = v) {g off : Nat} (hx : a.eval x = .pointer (some ⟨g, off, none⟩)) (hn : cs.length = n) (h1 : ∀ v ∈ cs, v.oneCell' = true)
    {old : Array Value} {t : TypeId} (hg : w.heap[g]? = some (.cells old t (0, 0))) (hfit : off + n ≤ old.size)
    (h : ∀ w', Put w g off cs old t w' → wpList P ops Q rest (a.put o.dst undef) w') : wpList P ops Q (o :: rest) a w :=
  BigFrame.wpList_want hw fun K hK => by
    subst hn
    have hst := run_storeCells_at P g off t cs 0 old w hg (by simpa using hfit) h1
    simp only [Nat.add_zero] at hst
    have hr : (storeVar ty ⟨g, off, none⟩ v).run P w = .ok () (w.setRow g (old.toList.take off ++ cs ++ old.toList.drop (off + cs.length)).toArray) := by
      cases hq : P.info? ty with
      | none => simp [hq] at hi
      | some i =>
        have hs : i.size = cs.length := by simpa [hq] using hi
        simp [storeVar, sizeOf, typeInfo, hq, hv, hs, hst]
    unfold Oper.wp execOp
    simp only [ho, hx, hy, Instr.storeAt, Instr.sureAddr, Sem.run_bind, Sem.run_pure, Result.andThen_ok, hr]
    exact hK _ _ (h _ (Put.of_row hg hfit))
section
variable {α : Type} {n : Nat} {R : CR α}
/-- The cells of a row's elements, one behind another. -/
theorem ElR.toL (hR : Good n R) {w : World} {b : Nat} : ∀ {xs : List α} {off : Nat} {F : List Nat}, ElR n R w b off xs F → ∃ cl, cl.length = xs.length * n ∧ CellsAt w b off cl ∧ ElL R w xs cl F
  | [], _, _, h => ⟨[], by simp, (fun j u hu => by cases hu), rfl, h⟩
  | x :: r, off, F, h => by
    obtain ⟨cs, F1, F2, rfl, h1, h2, h3⟩ := h
    obtain ⟨cl, hl, hc, he⟩ := ElR.toL hR h3
    have hn := hR.len h2
    refine ⟨cs ++ cl, by rw [List.length_append, hn, hl, List.length_cons, Nat.add_mul]; omega, fun j u hu => ?_, cs, cl, F1, F2, rfl, rfl, h2, he⟩
    by_cases hj : j < cs.length
    · rw [List.getElem?_append_left hj] at hu
      exact h1 j u hu
    · rw [List.getElem?_append_right (by omega)] at hu
      have := hc (j - cs.length) u hu
      rwa [show off + n + (j - cs.length) = off + j by omega] at this
theorem ElL.one (h1 : ∀ w x cs F, R w x cs F → ∀ v ∈ cs, v.oneCell' = true) {w : World} : ∀ {xs : List α} {cl : List Value} {F : List Nat}, ElL R w xs cl F → ∀ v ∈ cl, v.oneCell' = true
  | [], _, _, h => by rw [h.1]; simp
  | x :: r, _, _, h => by
    obtain ⟨cs, cr, F1, F2, rfl, rfl, g1, g2⟩ := h
    intro v hv
    rcases List.mem_append.1 hv with hv | hv
    · exact h1 _ _ _ _ g1 v hv
    · exact ElL.one h1 g2 v hv
theorem ElL.plain (hp : ∀ w x cs F, R w x cs F → F = []) {w : World} : ∀ {xs : List α} {cl : List Value} {F : List Nat}, ElL R w xs cl F → F = []
  | [], _, _, h => h.2
  | x :: r, _, _, h => by
    obtain ⟨cs, cr, F1, F2, rfl, rfl, g1, g2⟩ := h
    rw [hp _ _ _ _ g1, ElL.plain hp g2]
    rfl
end
/-- A whole slice of plain things appended to a row that was made last. -/
theorem app_all {α : Type} {P : Program} {ops : Array Oper} {rest : List Oper} {o : Oper} {a : Act} {Q : Exit → Act → World → Prop} (hgd : o.guard = none) (s x : Operand) (t e : TypeId)
    (ho : o.op = .call { callee := .builtin .append, args := #[s, x], argTypes := #[t, t] }) (ht : P.underlying t = some (.slice e)) {z : Value} {size bytes : Nat}
    (hinfo : (P.info? e).map (fun i => (i.zero, i.size, i.bytes)) = some (some z, size, bytes)) (hzs : z.cells.size = size) (hsz : 0 < size) {R : CR α} (hR : Good size R) (hp : ∀ w x cs F, R w x cs F → F = []) (h1 : ∀ w x cs F, R w x cs F → ∀ v ∈ cs, v.oneCell' = true)
    (W : World) (xs : List α) (A : Option Addr) (cap : Nat) (F : List Nat) (hsl : SlR size R W xs (.slice A xs.length cap) F) (hs : a.eval s = .slice (some ⟨W.heap.size, 0, none⟩) 0 0) (hx : a.eval x = .slice A xs.length cap)
    (hA : xs ≠ [] ∨ A.isSome = true) (hn : xs.length ≤ 1099511627776) (hby : xs.length * bytes ≤ 140737488355328)
    (h : ∀ v' w', (∃ G, SlR size R w' xs v' G ∧ Fresh W.heap.size w' G) → Below W.heap.size W w' → wpList P ops Q rest (a.put o.dst v') w') : wpList P ops Q (o :: rest) a (W.alloc (.cells #[] e)) := by
  obtain ⟨i0, hi, hz0, hz1, hz2⟩ := info_parts hinfo
  have hmade : (W.alloc (.cells #[] e)).ownsRow W.heap.size e size (.slice (some ⟨W.heap.size, 0, none⟩) 0 0) 0 [] := World.ownsRow_made W #[] 0 (Nat.le_refl _) (by simp [maxLen]) (by simp)
  obtain ⟨A', cap', hv, hl, hm, hc⟩ := hsl
  injection hv with hA' _ hcap
  subst hA' hcap
  obtain ⟨ad, rfl⟩ : ∃ ad, A = some ad := by
    rcases hA with h | h
    · rcases hc with ⟨h0, _⟩ | ⟨b, off, F', h2, _⟩
      · exact absurd h0 h
      · exact ⟨_, h2⟩
    · exact Option.isSome_iff_exists.1 h
  obtain ⟨cl, hcl, hcells, hel⟩ : ∃ cl, cl.length = xs.length * size ∧ (∀ j u, cl[j]? = some u → (W.alloc (.cells #[] e)).cell? (ad.add j) = some u) ∧ ElL R W xs cl [] := by
    rcases hc with ⟨rfl, _⟩ | ⟨b, off, F', h2, hb, rfl, he⟩
    · exact ⟨[], by simp, (fun j u hu => by cases hu), rfl, rfl⟩
    · injection h2 with h2
      subst h2
      obtain ⟨cl, g1, g2, g3⟩ := he.toL hR
      have hF := g3.plain hp
      subst hF
      refine ⟨cl, g1, fun j u hu => ?_, g3⟩
      have e1 : (⟨b, off, none⟩ : Addr).add j = ⟨b, off + j, none⟩ := by
        unfold Addr.add
        split
        · rename_i h0; subst h0; rfl
        · rfl
      rw [e1]
      exact (((Below.refl W.heap.size W).alloc (Nat.le_refl _) _).cell (p := ⟨b, off + j, none⟩) hb).trans (g2 j u hu)
  refine wpList_append_own _ hgd s x t ho W.heap.size e i0 z size bytes ht hi hz0 hz1 hz2 hzs hsz _ 0 [] hs hmade ad xs.length cap cl hx hcl hcells (hel.one h1) (by unfold maxLen; omega) (by rw [Nat.zero_add]; exact hby) (by simp) ?_
  intro v' w' h2 h3 _
  rw [Nat.zero_add, List.nil_append] at h2
  have hW : Below W.heap.size W w' := ((Below.refl W.heap.size W).alloc (Nat.le_refl _) _).grown h3 (by simp) (fun k hk => by simp only [Value.ownBlock, Option.some.injEq] at hk; omega)
  have hO : OwnS size R W.heap.size e w' xs v' [] := ⟨⟨cl, h2, hel.frame hR hW.size (by simp)⟩, Fresh.nil _ _, by simp⟩
  exact h v' w' (hO.slr hR) hW
end Go.Proofs.YtjddmboaaebbiaaGreatDoor

/- A row of texts that a call owns, one text appended inside a region that draws its order. Plain: no program. -/
namespace Go.Proofs.YtjddmboaaebbiaaGreatDoor
set_option linter.unusedSimpArgs false
set_option linter.unusedVariables false
set_option maxRecDepth 100000
open Go.RowKit Go.Lib
set_option linter.unusedVariables false

theorem rt_refl (w : World) (b : Option Nat) : w.grownBy w b := ⟨rfl, rfl, rfl, Nat.le_refl _, fun _ _ _ => rfl⟩
theorem rt_below {w w1 w2 : World} {b : Nat} (h : w.grownBy w1 (some b)) (hg : Below w1.heap.size w1 w2) : w.grownBy w2 (some b) :=
  ⟨hg.os.trans h.os, hg.tape.trans h.tape, hg.output.trans h.output, Nat.le_trans h.size hg.size, fun k hk hne => (hg.block k (Nat.lt_of_lt_of_le hk h.size)).trans (h.block k hk hne)⟩
theorem rt_trans {w w1 w2 : World} {b : Nat} (h : w.grownBy w1 (some b)) (hg : w1.grownBy w2 (some b)) : w.grownBy w2 (some b) :=
  ⟨hg.os.trans h.os, hg.tape.trans h.tape, hg.output.trans h.output, Nat.le_trans h.size hg.size, fun k hk hne => (hg.block k (Nat.lt_of_lt_of_le hk h.size) hne).trans (h.block k hk hne)⟩
theorem rt_of {w w1 : World} {b : Nat} (h : Below w.heap.size w w1) : w.grownBy w1 (some b) := rt_below (rt_refl w (some b)) h
theorem rt_drew {w w1 : World} {b : Nat} (h : w.grownBy w1 (some b)) : w.grownBy w1.drew (some b) := rt_below h (Below.refl _ _).drew
theorem rt_alloc {w w1 : World} {b : Nat} (o : Obj) (h : w.grownBy w1 (some b)) : w.grownBy (w1.alloc o) (some b) := rt_below h ((Below.refl _ _).alloc (Nat.le_refl _) _)
theorem rt_cell {w w1 : World} {b : Nat} (h : w.grownBy w1 (some b)) {p : Addr} {v : Value} (hc : w.cell? p = some v) (hne : p.block ≠ b) : w1.cell? p = some v :=
  (World.cell?_of_block (h.block p.block (cell_lt hc) (fun e => hne (by injection e with e; try exact e.symm)))).trans hc
theorem rt_down {w w1 : World} {b B : Nat} (h : w.grownBy w1 (some b)) (hB : B ≤ b) (hw : B ≤ w.heap.size) : Below B w w1 :=
  ⟨h.os, h.tape, h.output, h.size, fun k hk => h.block k (by omega) (fun e => by injection e; omega)⟩
/-- A row of texts that the call owns. -/
def SRow (B : Nat) (w : World) (v : Value) (xs : List ByteArray) : Prop := w.ownsRow B 9 1 v xs.length (xs.map Value.string)
theorem SRow.below {B : Nat} {w w' : World} {v : Value} {xs : List ByteArray} (hr : SRow B w v xs) (hb : Below w.heap.size w w') : SRow B w' v xs := own_below hr hb
theorem SRow.own {B D : Nat} {w : World} {v : Value} {xs : List ByteArray} (hr : SRow B w v xs) (hx : ∀ x ∈ xs, x.size ≤ maxLen) : OwnS 1 (StrR D) B 9 w xs v [] := by
  have hel : ∀ (l : List ByteArray), (∀ x ∈ l, x.size ≤ maxLen) → ElL (StrR D) w l (l.map Value.string) [] := fun l => by
    induction l with
    | nil => exact fun _ => ⟨rfl, rfl⟩
    | cons x r ih => exact fun h => ⟨[.string x], r.map Value.string, [], [], rfl, rfl, ⟨rfl, h x (by simp), rfl⟩, ih fun y hy => h y (by simp [hy])⟩
  exact ⟨⟨_, hr, hel xs hx⟩, Fresh.nil _ _, by simp⟩
theorem SRow.slr {B D : Nat} {w : World} {v : Value} {xs : List ByteArray} (hr : SRow B w v xs) (hx : ∀ x ∈ xs, x.size ≤ maxLen) : ∃ G, SlR 1 (StrR D) w xs v G ∧ Fresh B w G := (hr.own (D := D) hx).slr (StrR.good D)
theorem SRow.ofOwn {B D : Nat} {w : World} {v : Value} {xs : List ByteArray} {F : List Nat} (h : OwnS 1 (StrR D) B 9 w xs v F) : SRow B w v xs := by
  obtain ⟨⟨cl, h1, h2⟩, _, _⟩ := h
  have hel : ∀ (l : List ByteArray) (cl : List Value) (F : List Nat), ElL (StrR D) w l cl F → cl = l.map Value.string := fun l => by
    induction l with
    | nil => exact fun cl F h => h.1
    | cons x r ih =>
      rintro cl F ⟨cs, cr, F1, F2, rfl, rfl, h3, h4⟩
      rw [h3.1, ih cr F2 h4]
      rfl
  rw [hel xs cl F h2] at h1
  exact h1
theorem SRow.one {B : Nat} {w : World} {x : ByteArray} (hB : B ≤ w.heap.size) : SRow B (w.alloc (.cells #[.string x] 9)) (.slice (some ⟨w.heap.size, 0, none⟩) 1 1) [x] :=
  ⟨rfl, .inr ⟨w.heap.size, 1, #[.string x], rfl, hB, heap_alloc_new w _, Nat.le_refl _, by unfold maxLen; omega, rfl, rfl⟩⟩
theorem step_str {P : Program} {ops : Array Oper} {o : Oper} {a : Act} {K : Act → World → Prop} {Q : Exit → Act → World → Prop} {E : Prop} (hgd : o.guard = none) (s x : Operand) (t : TypeId)
    (ho : o.op = .call { callee := .builtin .append, args := #[s, x], argTypes := #[t, t] }) (ht : P.underlying t = some (.slice 9)) {z : Value} {bytes : Nat}
    (hinfo : (P.info? 9).map (fun i => (i.zero, i.size, i.bytes)) = some (some z, 1, bytes)) (hzs : z.cells.size = 1) (W W2 : World) (base g n c : Nat) (xs : List ByteArray) (hl : xs.length = n)
    (hown : SRow base W (.slice (some ⟨g, 0, none⟩) n c) xs) (hs : a.eval s = .slice (some ⟨g, 0, none⟩) n c) (y : ByteArray) (hx : a.eval x = .slice (some ⟨W.heap.size, 0, none⟩) 1 1)
    (hW2 : Below (W.heap.size + 1) (W.alloc (.cells #[.string y] 9)) W2) (hn : n + 1 ≤ 1099511627776) (hby : (n + 1) * bytes ≤ 140737488355328) (hbase : base ≤ W.heap.size)
    (hK : ∀ g' c' w', SRow base w' (.slice (some ⟨g', 0, none⟩) (n + 1) c') (xs ++ [y]) → W2.grownBy w' (some g) → base ≤ g' → K (a.put o.dst (.slice (some ⟨g', 0, none⟩) (n + 1) c')) w') :
    if Region.wanted o (yielded ops a.tmps) = true then Oper.wp P o a W2 K Q else E := by
  subst hl
  have hw : Region.wanted o (yielded ops a.tmps) = true := by simp [Region.wanted, hgd]
  rw [if_pos hw]
  obtain ⟨i0, hi, hz0, hz1, hz2⟩ := info_parts hinfo
  have hWa : Below W.heap.size W W2 := ((Below.refl W.heap.size W).alloc (Nat.le_refl _) (Obj.cells #[.string y] 9)).trans (hW2.mono (Nat.le_succ _))
  have hcell : W2.cell? ⟨W.heap.size, 0, none⟩ = some (.string y) := (hW2.cell (p := ⟨W.heap.size, 0, none⟩) (Nat.lt_succ_self _)).trans (CellsAt.new W [.string y] 9 0 _ rfl)
  refine wp_append_own W2 s x t ho base 9 i0 z 1 bytes ht hi hz0 hz1 hz2 hzs (by decide) _ xs.length _ hs (own_below hown hWa) ⟨W.heap.size, 0, none⟩ 1 1 [.string y] hx rfl (fun j u hu => ?_) (fun u hu => by rw [List.mem_singleton.1 hu]; rfl) (by unfold maxLen; omega) hby (Nat.le_trans hbase hWa.size) fun v' w' h2 h3 _ => ?_
  · cases j with
    | zero => obtain rfl := Option.some.inj hu; exact hcell
    | succ j => cases hu
  · have h2' : SRow base w' v' (xs ++ [y]) := by
      unfold SRow
      rw [List.length_append, List.map_append]
      exact h2
    rcases h2.2 with ⟨_, h0⟩ | ⟨g', cap, cur, rfl, hg', _⟩
    · omega
    · exact hK g' cap w' h2' h3 hg'
theorem infoStrR : (Tryz.prog.info? 9).map (fun i => (i.zero, i.size, i.bytes)) = some (some (.string ByteArray.empty), 1, 16) := by kernel_rfl
end Go.Proofs.YtjddmboaaebbiaaGreatDoor

/- Expressions as text: the reference. Conditions: the expression is valid. -/
namespace Go.Proofs.YtjddmboaaebbiaaGreatDoor
set_option linter.unusedSimpArgs false
set_option linter.unusedVariables false
set_option maxRecDepth 100000
open Go.RowKit Go.Lib Go.WideShapes
set_option linter.unusedVariables false

/-- One argument of an expression: its cells in every later world. -/
theorem ex_arg {d : Nat} {w : World} {l : List Ex} {A : Option Addr} {len cap : Nat} {F : List Nat} (h : SlR 7 (ExR d) w l (.slice A len cap) F) {k : Nat} {x : Ex} (hx : l[k]? = some x) :
    ∃ b off, A = some ⟨b, off, none⟩ ∧ b < w.heap.size ∧ ∃ c0 c1 c2 c3 c4 c5 c6, (∀ W : World, Below w.heap.size w W → ∀ j u, [c0, c1, c2, c3, c4, c5, c6][j]? = some u → W.cell? ⟨b, off + k * 7 + j, none⟩ = some u) ∧
      ∃ Fk, ∀ W : World, Below w.heap.size w W → ExR d W x [c0, c1, c2, c3, c4, c5, c6] Fk := by
  have hlt := h.lt (ExR.good d)
  obtain ⟨b, off, cs, Fk, hA, _, hbF, hFk, hcl, hcat, hR⟩ := SlR.get (ExR.good d) h hx
  obtain ⟨c0, c1, c2, c3, c4, c5, c6, rfl⟩ := list7 hcl
  exact ⟨b, off, hA, hlt b hbF, c0, c1, c2, c3, c4, c5, c6, fun W hW j u hu => (hW.cell (p := ⟨b, off + k * 7 + j, none⟩) (hlt b hbF)).trans (hcat j u hu), Fk, fun W hW => (ExR.good d).below hR hW fun j hj => hlt j (hFk j hj)⟩
def TxS (d : Nat) : Prop := ∀ (e : Ex) (cs : List Value) (F : List Nat) (w : World), ExR d w e cs F → allE okN d e = true → cntE d e ≤ 24 →
    Calls Tryz.prog 52 #[.agg cs.toArray] w fun en w' => en = .returned (.string (txE d e)) ∧ Below w.heap.size w w'
set_option maxRecDepth 100000 in
set_option maxHeartbeats 1000000 in
theorem s_atE {d : Nat} (hE : TxS d) (e : Ex) (cs : List Value) (F : List Nat) (w : World) (h : ExR d w e cs F) (hv : allE okN d e = true) (hc : cntE d e ≤ 24) (need : Int) :
    Calls Tryz.prog 82 #[.agg cs.toArray, .int .i64 need] w fun en w' => en = .returned (.string (atL (levH e.h) need (txE d e))) ∧ Below w.heap.size w w' := by
  have hsz := tx_short h hv hc
  have HFe := hide ((ExR.good d).lt h)
  obtain ⟨v0, v1, v2, v3, v4, v5, v6, rfl⟩ := list7 ((ExR.good d).len h)
  have HX0 : Hid (∀ W : World, Below w.heap.size w W → ExR d W e [v0, v1, v2, v3, v4, v5, v6] F) := hide fun W hW => (ExR.good d).below h hW HFe.out
  obtain ⟨C, hz0, hw0⟩ := boxes1 w [v0, v1, v2, v3, v4, v5, v6] 59
  show Calls _ _ #[.agg #[v0, v1, v2, v3, v4, v5, v6], .int .i64 need] w _
  obtain ⟨T, hT⟩ : ∃ T, txE d e = T := ⟨_, rfl⟩
  obtain ⟨lv, hlv⟩ : ∃ lv, levH e.h = lv := ⟨_, rfl⟩
  have Hr0 : Hid (atL (levH e.h) need (txE d e) = atL lv need T) := hide (by rw [hT, hlv])
  rw [hT] at hsz
  have HeT := hide hT
  have HeL := hide hlv
  clear hT hlv
  have Hv := hide hv
  clear h hv
  go_enter Tryz.func82, Tryz.ntmps82
  go_wp2_with fail
  generalize w.alloc (Obj.cells #[v0, v1, v2, v3, v4, v5, v6] 59) = W0 at C hz0 hw0 ⊢
  have hn0 : w.heap.size + 1 ≤ W0.heap.size := by omega
  have Hw : Hid (∀ W : World, Below (w.heap.size + 1) W0 W → Below w.heap.size w W) := hide fun W h => hw0.trans (h.mono (by omega))
  have e0 := cell_rule C (n := w.heap.size + 1) (by omega) 0 (v := v0) rfl
  have e1 := cell_rule C (n := w.heap.size + 1) (by omega) 1 (v := v1) rfl
  have e2 := cell_rule C (n := w.heap.size + 1) (by omega) 2 (v := v2) rfl
  have e3 := cell_rule C (n := w.heap.size + 1) (by omega) 3 (v := v3) rfl
  have e4 := cell_rule C (n := w.heap.size + 1) (by omega) 4 (v := v4) rfl
  have e5 := cell_rule C (n := w.heap.size + 1) (by omega) 5 (v := v5) rfl
  have e6 := cell_rule C (n := w.heap.size + 1) (by omega) 6 (v := v6) rfl
  have hB0 : Below (w.heap.size + 1) W0 W0 := Below.refl _ _
  clear C hz0 hw0
  refine Calls.mono (hE e _ F _ (HX0.out _ (Hw.out _ hB0)) Hv.out hc) ?_
  rintro en W1 ⟨rfl, hb⟩
  have hB1 : Below (w.heap.size + 1) W0 W1 := below_step hB0 hn0 hb
  clear hb
  rw [HeT.out]
  go_wp2_with fail
  refine Calls.mono (s_LevelOf d e _ F _ (HX0.out _ (Hw.out _ hB1))) ?_
  rintro en W2 ⟨rfl, hb⟩
  have hB2 : Below (w.heap.size + 1) W0 W2 := below_step hB1 hn0 hb
  clear hb
  rw [HeL.out]
  by_cases hl : lv < need
  · have Hr : Hid (atL (levH e.h) need (txE d e) = ⟨#[40]⟩ ++ T ++ ⟨#[41]⟩) := hide (by rw [Hr0.out]; unfold atL; rw [if_pos hl])
    go_wp2_with fail
    go_ret
    exact ⟨ret_string Hr.out.symm, Hw.out _ hB2⟩
  · have Hr : Hid (atL (levH e.h) need (txE d e) = T) := hide (by rw [Hr0.out]; unfold atL; rw [if_neg hl])
    go_wp2_with fail
    go_ret
    exact ⟨ret_string Hr.out.symm, Hw.out _ hB2⟩
set_option maxRecDepth 100000 in
set_option maxHeartbeats 2000000 in
theorem s_tx2 {d : Nat} (hE : TxS d) (n p t : Int) (s m : ByteArray) (cs : List Value) (F : List Nat) (w : World) (h : ExR (d + 1) w (.mk ⟨2, n, p, t, s, m⟩ []) cs F) (hv : allE okN (d + 1) (.mk ⟨2, n, p, t, s, m⟩ []) = true) (hc : cntE (d + 1) (.mk ⟨2, n, p, t, s, m⟩ []) ≤ 24) :
    Calls Tryz.prog 52 #[.agg cs.toArray] w fun en w' => en = .returned (.string (txE (d + 1) (.mk ⟨2, n, p, t, s, m⟩ []))) ∧ Below w.heap.size w w' := by
  obtain ⟨A, cap, rfl, hok, hl, hm, hs⟩ := ex_form h
  simp only [Ex.args, Ex.h, List.length_cons, List.length_nil] at hs hl hm hok
  have hv' : (okN (.mk ⟨2, n, p, t, s, m⟩ []) && ([] : List Ex).all (allE okN d)) = true := hv
  rw [Bool.and_eq_true] at hv'
  obtain ⟨hn, hall⟩ := hv'
  have hn : nodeB 2 n p t s m 0 = true := hn
  have hcnt : 1 + sumBy (cntE d) [] ≤ 24 := hc
  obtain ⟨n0, n1⟩ := wf_i64 hok.n
  obtain ⟨p0, p1⟩ := wf_i64 hok.pos
  simp only at n0 n1 p0 p1
  unfold maxLen at hm
  have Hr : Hid (txE (d + 1) (.mk ⟨2, n, p, t, s, m⟩ []) = ⟨#[108, 105, 116]⟩) := hide rfl
  obtain ⟨C, hz0, hw0⟩ := boxes1 w [.int .i64 2, .int .i64 n, .int .i64 p, .int .i64 t, .string s, .string m, .slice A 0 cap] 59
  show Calls _ _ #[.agg #[.int .i64 2, .int .i64 n, .int .i64 p, .int .i64 t, .string s, .string m, .slice A 0 cap]] w _
  clear h hv hc hs
  go_enter Tryz.func52, Tryz.ntmps52
  go_wp2_with fail
  go_ret
  exact ⟨ret_string Hr.out.symm, hw0⟩
set_option maxRecDepth 100000 in
set_option maxHeartbeats 2000000 in
theorem s_tx7 {d : Nat} (hE : TxS d) (n p t : Int) (s m : ByteArray) (cs : List Value) (F : List Nat) (w : World) (h : ExR (d + 1) w (.mk ⟨7, n, p, t, s, m⟩ []) cs F) (hv : allE okN (d + 1) (.mk ⟨7, n, p, t, s, m⟩ []) = true) (hc : cntE (d + 1) (.mk ⟨7, n, p, t, s, m⟩ []) ≤ 24) :
    Calls Tryz.prog 52 #[.agg cs.toArray] w fun en w' => en = .returned (.string (txE (d + 1) (.mk ⟨7, n, p, t, s, m⟩ []))) ∧ Below w.heap.size w w' := by
  obtain ⟨A, cap, rfl, hok, hl, hm, hs⟩ := ex_form h
  simp only [Ex.args, Ex.h, List.length_cons, List.length_nil] at hs hl hm hok
  have hv' : (okN (.mk ⟨7, n, p, t, s, m⟩ []) && ([] : List Ex).all (allE okN d)) = true := hv
  rw [Bool.and_eq_true] at hv'
  obtain ⟨hn, hall⟩ := hv'
  have hn : nodeB 7 n p t s m 0 = true := hn
  have hcnt : 1 + sumBy (cntE d) [] ≤ 24 := hc
  obtain ⟨n0, n1⟩ := wf_i64 hok.n
  obtain ⟨p0, p1⟩ := wf_i64 hok.pos
  simp only at n0 n1 p0 p1
  unfold maxLen at hm
  have Hr : Hid (txE (d + 1) (.mk ⟨7, n, p, t, s, m⟩ []) = ⟨#[110, 111, 110, 101]⟩) := hide rfl
  obtain ⟨C, hz0, hw0⟩ := boxes1 w [.int .i64 7, .int .i64 n, .int .i64 p, .int .i64 t, .string s, .string m, .slice A 0 cap] 59
  show Calls _ _ #[.agg #[.int .i64 7, .int .i64 n, .int .i64 p, .int .i64 t, .string s, .string m, .slice A 0 cap]] w _
  clear h hv hc hs
  go_enter Tryz.func52, Tryz.ntmps52
  go_wp2_with fail
  go_ret
  exact ⟨ret_string Hr.out.symm, hw0⟩
set_option maxRecDepth 100000 in
set_option maxHeartbeats 2000000 in
theorem s_tx1 {d : Nat} (hE : TxS d) (n p t : Int) (s m : ByteArray) (cs : List Value) (F : List Nat) (w : World) (h : ExR (d + 1) w (.mk ⟨1, n, p, t, s, m⟩ []) cs F) (hv : allE okN (d + 1) (.mk ⟨1, n, p, t, s, m⟩ []) = true) (hc : cntE (d + 1) (.mk ⟨1, n, p, t, s, m⟩ []) ≤ 24) :
    Calls Tryz.prog 52 #[.agg cs.toArray] w fun en w' => en = .returned (.string (txE (d + 1) (.mk ⟨1, n, p, t, s, m⟩ []))) ∧ Below w.heap.size w w' := by
  obtain ⟨A, cap, rfl, hok, hl, hm, hs⟩ := ex_form h
  simp only [Ex.args, Ex.h, List.length_cons, List.length_nil] at hs hl hm hok
  have hv' : (okN (.mk ⟨1, n, p, t, s, m⟩ []) && ([] : List Ex).all (allE okN d)) = true := hv
  rw [Bool.and_eq_true] at hv'
  obtain ⟨hn, hall⟩ := hv'
  have hn : nodeB 1 n p t s m 0 = true := hn
  have hcnt : 1 + sumBy (cntE d) [] ≤ 24 := hc
  obtain ⟨n0, n1⟩ := wf_i64 hok.n
  obtain ⟨p0, p1⟩ := wf_i64 hok.pos
  simp only at n0 n1 p0 p1
  unfold maxLen at hm
  have Hr : Hid (txE (d + 1) (.mk ⟨1, n, p, t, s, m⟩ []) = fmtTyped n t) := hide rfl
  obtain ⟨C, hz0, hw0⟩ := boxes1 w [.int .i64 1, .int .i64 n, .int .i64 p, .int .i64 t, .string s, .string m, .slice A 0 cap] 59
  show Calls _ _ #[.agg #[.int .i64 1, .int .i64 n, .int .i64 p, .int .i64 t, .string s, .string m, .slice A 0 cap]] w _
  clear h hv hc hs
  go_enter Tryz.func52, Tryz.ntmps52
  go_wp2_with fail
  refine Calls.mono (s_FormatTyped n t n0 n1 _) ?_
  rintro en W1 ⟨rfl, hb⟩
  have hB1 := hw0.trans (hb.mono hw0.size)
  clear hb
  go_wp2_with fail
  go_ret
  exact ⟨ret_string Hr.out.symm, hB1⟩
set_option maxRecDepth 100000 in
set_option maxHeartbeats 2000000 in
theorem s_tx6 {d : Nat} (hE : TxS d) (n p t : Int) (s m : ByteArray) (cs : List Value) (F : List Nat) (w : World) (h : ExR (d + 1) w (.mk ⟨6, n, p, t, s, m⟩ []) cs F) (hv : allE okN (d + 1) (.mk ⟨6, n, p, t, s, m⟩ []) = true) (hc : cntE (d + 1) (.mk ⟨6, n, p, t, s, m⟩ []) ≤ 24) :
    Calls Tryz.prog 52 #[.agg cs.toArray] w fun en w' => en = .returned (.string (txE (d + 1) (.mk ⟨6, n, p, t, s, m⟩ []))) ∧ Below w.heap.size w w' := by
  obtain ⟨A, cap, rfl, hok, hl, hm, hs⟩ := ex_form h
  simp only [Ex.args, Ex.h, List.length_cons, List.length_nil] at hs hl hm hok
  have hv' : (okN (.mk ⟨6, n, p, t, s, m⟩ []) && ([] : List Ex).all (allE okN d)) = true := hv
  rw [Bool.and_eq_true] at hv'
  obtain ⟨hn, hall⟩ := hv'
  have hn : nodeB 6 n p t s m 0 = true := hn
  have hcnt : 1 + sumBy (cntE d) [] ≤ 24 := hc
  obtain ⟨n0, n1⟩ := wf_i64 hok.n
  obtain ⟨p0, p1⟩ := wf_i64 hok.pos
  simp only at n0 n1 p0 p1
  unfold maxLen at hm
  have Hr : Hid (txE (d + 1) (.mk ⟨6, n, p, t, s, m⟩ []) = ⟨#[115, 101, 108, 102, 40]⟩ ++ num p ++ ⟨#[41]⟩) := hide rfl
  have hns := num_size p0 p1
  obtain ⟨C, hz0, hw0⟩ := boxes1 w [.int .i64 6, .int .i64 n, .int .i64 p, .int .i64 t, .string s, .string m, .slice A 0 cap] 59
  show Calls _ _ #[.agg #[.int .i64 6, .int .i64 n, .int .i64 p, .int .i64 t, .string s, .string m, .slice A 0 cap]] w _
  clear h hv hc hs
  go_enter Tryz.func52, Tryz.ntmps52
  go_wp2_with fail
  refine Calls.mono (s_FormatInt p p0 p1 _) ?_
  rintro en W1 ⟨rfl, hb⟩
  have hB1 := hw0.trans (hb.mono hw0.size)
  clear hb
  rw [show (⟨(itoa p).toArray⟩ : ByteArray) = num p from rfl]
  generalize num p = N at Hr hns ⊢
  go_wp2_with fail
  go_ret
  exact ⟨ret_string Hr.out.symm, hB1⟩
set_option maxRecDepth 100000 in
set_option maxHeartbeats 2000000 in
theorem s_tx3 {d : Nat} (hE : TxS d) (n p t : Int) (s m : ByteArray) (cs : List Value) (F : List Nat) (w : World) (h : ExR (d + 1) w (.mk ⟨3, n, p, t, s, m⟩ []) cs F) (hv : allE okN (d + 1) (.mk ⟨3, n, p, t, s, m⟩ []) = true) (hc : cntE (d + 1) (.mk ⟨3, n, p, t, s, m⟩ []) ≤ 24) :
    Calls Tryz.prog 52 #[.agg cs.toArray] w fun en w' => en = .returned (.string (txE (d + 1) (.mk ⟨3, n, p, t, s, m⟩ []))) ∧ Below w.heap.size w w' := by
  obtain ⟨A, cap, rfl, hok, hl, hm, hs⟩ := ex_form h
  simp only [Ex.args, Ex.h, List.length_cons, List.length_nil] at hs hl hm hok
  have hv' : (okN (.mk ⟨3, n, p, t, s, m⟩ []) && ([] : List Ex).all (allE okN d)) = true := hv
  rw [Bool.and_eq_true] at hv'
  obtain ⟨hn, hall⟩ := hv'
  have hn : nodeB 3 n p t s m 0 = true := hn
  have hcnt : 1 + sumBy (cntE d) [] ≤ 24 := hc
  obtain ⟨n0, n1⟩ := wf_i64 hok.n
  obtain ⟨p0, p1⟩ := wf_i64 hok.pos
  simp only at n0 n1 p0 p1
  unfold maxLen at hm
  have Hr : Hid (txE (d + 1) (.mk ⟨3, n, p, t, s, m⟩ []) = ⟨#[36]⟩ ++ num p ++ ⟨#[46]⟩ ++ m) := hide rfl
  have hns := num_size p0 p1
  have hms : m.size ≤ 8 := by unfold nodeB at hn; simp at hn; exact validN_size hn.2
  clear hn hcnt
  obtain ⟨C, hz0, hw0⟩ := boxes1 w [.int .i64 3, .int .i64 n, .int .i64 p, .int .i64 t, .string s, .string m, .slice A 0 cap] 59
  show Calls _ _ #[.agg #[.int .i64 3, .int .i64 n, .int .i64 p, .int .i64 t, .string s, .string m, .slice A 0 cap]] w _
  clear h hv hc hs
  go_enter Tryz.func52, Tryz.ntmps52
  go_wp2_with fail
  generalize w.alloc (Obj.cells #[.int .i64 3, .int .i64 n, .int .i64 p, .int .i64 t, .string s, .string m, .slice A 0 cap] 59) = W0 at C hz0 hw0 ⊢
  have hn0 : w.heap.size + 1 ≤ W0.heap.size := by omega
  have Hw : Hid (∀ W : World, Below (w.heap.size + 1) W0 W → Below w.heap.size w W) := hide fun W h => hw0.trans (h.mono (by omega))
  have e0 := cell_rule C (n := w.heap.size + 1) (by omega) 0 (v := .int .i64 3) rfl
  have e1 := cell_rule C (n := w.heap.size + 1) (by omega) 1 (v := .int .i64 n) rfl
  have e2 := cell_rule C (n := w.heap.size + 1) (by omega) 2 (v := .int .i64 p) rfl
  have e3 := cell_rule C (n := w.heap.size + 1) (by omega) 3 (v := .int .i64 t) rfl
  have e4 := cell_rule C (n := w.heap.size + 1) (by omega) 4 (v := .string s) rfl
  have e5 := cell_rule C (n := w.heap.size + 1) (by omega) 5 (v := .string m) rfl
  have e6 := cell_rule C (n := w.heap.size + 1) (by omega) 6 (v := .slice A 0 cap) rfl
  have hB0 : Below (w.heap.size + 1) W0 W0 := Below.refl _ _
  clear C hz0
  have q0 : ¬ 9223372036854775807 < 1 + (num p).size := by omega
  have q1 : ¬ 9223372036854775807 < 1 + (num p).size + 1 := by omega
  have q2 : ¬ 9223372036854775807 < 1 + (num p).size + 1 + m.size := by omega
  go_region_held3 (fun W => Below (w.heap.size + 1) W0 W) (first | assumption | exact Below.drew (by assumption))
    (first | (go_at_call 23; refine Calls.mono (s_FormatInt p p0 p1 _) ?_; rintro en W1 ⟨rfl, hb⟩; have hB1 : Below (w.heap.size + 1) W0 W1 := below_step (by first | assumption | exact Below.drew (by assumption)) hn0 hb; clear hb; rw [show (⟨(itoa p).toArray⟩ : ByteArray) = num p from rfl]; generalize num p = N at Hr hns q0 q1 q2 ⊢))
  go_wp2_with fail
  go_ret
  exact ⟨ret_string Hr.out.symm, Hw.out _ hB1⟩
set_option maxRecDepth 100000 in
set_option maxHeartbeats 2000000 in
theorem s_tx5 {d : Nat} (hE : TxS d) (n p t : Int) (s m : ByteArray) (x0 x1 x2 : Ex) (cs : List Value) (F : List Nat) (w : World) (h : ExR (d + 1) w (.mk ⟨5, n, p, t, s, m⟩ [x0, x1, x2]) cs F) (hv : allE okN (d + 1) (.mk ⟨5, n, p, t, s, m⟩ [x0, x1, x2]) = true) (hc : cntE (d + 1) (.mk ⟨5, n, p, t, s, m⟩ [x0, x1, x2]) ≤ 24) :
    Calls Tryz.prog 52 #[.agg cs.toArray] w fun en w' => en = .returned (.string (txE (d + 1) (.mk ⟨5, n, p, t, s, m⟩ [x0, x1, x2]))) ∧ Below w.heap.size w w' := by
  obtain ⟨A, cap, rfl, hok, hl, hm, hs⟩ := ex_form h
  simp only [Ex.args, Ex.h, List.length_cons, List.length_nil] at hs hl hm hok
  have hv' : (okN (.mk ⟨5, n, p, t, s, m⟩ [x0, x1, x2]) && ([x0, x1, x2] : List Ex).all (allE okN d)) = true := hv
  rw [Bool.and_eq_true] at hv'
  obtain ⟨hn, hall⟩ := hv'
  have hn : nodeB 5 n p t s m 3 = true := hn
  have hcnt : 1 + sumBy (cntE d) [x0, x1, x2] ≤ 24 := hc
  have HF := hide (hs.lt (ExR.good d))
  obtain ⟨n0, n1⟩ := wf_i64 hok.n
  obtain ⟨p0, p1⟩ := wf_i64 hok.pos
  simp only at n0 n1 p0 p1
  unfold maxLen at hm
  have hnn := cntE_nonneg d
  have hq0 := hnn x0
  have hq1 := hnn x1
  have hq2 := hnn x2
  simp only [sumBy] at hcnt
  simp only [List.all_cons, List.all_nil, Bool.and_true, Bool.and_eq_true] at hall
  have Hva0 : Hid (allE okN d x0 = true) := hide hall.1
  have hc0 : cntE d x0 ≤ 24 := by omega
  have Hva1 : Hid (allE okN d x1 = true) := hide hall.2.1
  have hc1 : cntE d x1 ≤ 24 := by omega
  have Hva2 : Hid (allE okN d x2 = true) := hide hall.2.2
  have hc2 : cntE d x2 ≤ 24 := by omega
  obtain ⟨bb0, off0, hA0, hbl0, c0_0, c0_1, c0_2, c0_3, c0_4, c0_5, c0_6, hcc0, Fk0, hR0⟩ := ex_arg hs (k := 0) (x := x0) rfl
  have Hsz0 := hide (tx_short (hR0 w (Below.refl _ _)) Hva0.out hc0)
  obtain ⟨bb1, off1, hA1, hbl1, c1_0, c1_1, c1_2, c1_3, c1_4, c1_5, c1_6, hcc1, Fk1, hR1⟩ := ex_arg hs (k := 1) (x := x1) rfl
  have Hsz1 := hide (tx_short (hR1 w (Below.refl _ _)) Hva1.out hc1)
  rw [hA0] at hA1
  injection hA1 with hA1
  injection hA1 with hB1 hO1 _
  subst hB1 hO1
  obtain ⟨bb2, off2, hA2, hbl2, c2_0, c2_1, c2_2, c2_3, c2_4, c2_5, c2_6, hcc2, Fk2, hR2⟩ := ex_arg hs (k := 2) (x := x2) rfl
  have Hsz2 := hide (tx_short (hR2 w (Below.refl _ _)) Hva2.out hc2)
  rw [hA0] at hA2
  injection hA2 with hA2
  injection hA2 with hB2 hO2 _
  subst hB2 hO2
  subst hA0
  have HR0 := hide hR0
  have HR1 := hide hR1
  have HR2 := hide hR2
  clear hall hR0 hR1 hR2 hnn hq0 hq1 hq2
  have Hr : Hid (txE (d + 1) (.mk ⟨5, n, p, t, s, m⟩ [x0, x1, x2]) = ⟨#[105, 102, 32]⟩ ++ txE d x0 ++ ⟨#[32, 116, 104, 101, 110, 32]⟩ ++ txE d x1 ++ ⟨#[32, 101, 108, 115, 101, 32]⟩ ++ txE d x2) := hide rfl
  have hs0 := Hsz0.out
  have hs1 := Hsz1.out
  have hs2 := Hsz2.out
  clear hn hcnt
  obtain ⟨C, hz0, hw0⟩ := boxes1 w [.int .i64 5, .int .i64 n, .int .i64 p, .int .i64 t, .string s, .string m, .slice (some ⟨bb0, off0, none⟩) 3 cap] 59
  show Calls _ _ #[.agg #[.int .i64 5, .int .i64 n, .int .i64 p, .int .i64 t, .string s, .string m, .slice (some ⟨bb0, off0, none⟩) 3 cap]] w _
  clear h hv hc hs
  go_enter Tryz.func52, Tryz.ntmps52
  go_wp2_with fail
  generalize w.alloc (Obj.cells #[.int .i64 5, .int .i64 n, .int .i64 p, .int .i64 t, .string s, .string m, .slice (some ⟨bb0, off0, none⟩) 3 cap] 59) = W0 at C hz0 hw0 ⊢
  have hn0 : w.heap.size + 1 ≤ W0.heap.size := by omega
  have Hw : Hid (∀ W : World, Below (w.heap.size + 1) W0 W → Below w.heap.size w W) := hide fun W h => hw0.trans (h.mono (by omega))
  have e0 := cell_rule C (n := w.heap.size + 1) (by omega) 0 (v := .int .i64 5) rfl
  have e1 := cell_rule C (n := w.heap.size + 1) (by omega) 1 (v := .int .i64 n) rfl
  have e2 := cell_rule C (n := w.heap.size + 1) (by omega) 2 (v := .int .i64 p) rfl
  have e3 := cell_rule C (n := w.heap.size + 1) (by omega) 3 (v := .int .i64 t) rfl
  have e4 := cell_rule C (n := w.heap.size + 1) (by omega) 4 (v := .string s) rfl
  have e5 := cell_rule C (n := w.heap.size + 1) (by omega) 5 (v := .string m) rfl
  have e6 := cell_rule C (n := w.heap.size + 1) (by omega) 6 (v := .slice (some ⟨bb0, off0, none⟩) 3 cap) rfl
  have hB0 : Below (w.heap.size + 1) W0 W0 := Below.refl _ _
  have a0_0 : ∀ W : World, Below (w.heap.size + 1) W0 W → W.cell? ⟨bb0, off0, none⟩ = some c0_0 := fun W hW => hcc0 W (Hw.out W hW) 0 _ rfl
  have a0_1 : ∀ W : World, Below (w.heap.size + 1) W0 W → W.cell? ⟨bb0, off0 + 1, none⟩ = some c0_1 := fun W hW => hcc0 W (Hw.out W hW) 1 _ rfl
  have a0_2 : ∀ W : World, Below (w.heap.size + 1) W0 W → W.cell? ⟨bb0, off0 + 2, none⟩ = some c0_2 := fun W hW => hcc0 W (Hw.out W hW) 2 _ rfl
  have a0_3 : ∀ W : World, Below (w.heap.size + 1) W0 W → W.cell? ⟨bb0, off0 + 3, none⟩ = some c0_3 := fun W hW => hcc0 W (Hw.out W hW) 3 _ rfl
  have a0_4 : ∀ W : World, Below (w.heap.size + 1) W0 W → W.cell? ⟨bb0, off0 + 4, none⟩ = some c0_4 := fun W hW => hcc0 W (Hw.out W hW) 4 _ rfl
  have a0_5 : ∀ W : World, Below (w.heap.size + 1) W0 W → W.cell? ⟨bb0, off0 + 5, none⟩ = some c0_5 := fun W hW => hcc0 W (Hw.out W hW) 5 _ rfl
  have a0_6 : ∀ W : World, Below (w.heap.size + 1) W0 W → W.cell? ⟨bb0, off0 + 6, none⟩ = some c0_6 := fun W hW => hcc0 W (Hw.out W hW) 6 _ rfl
  have a1_0 : ∀ W : World, Below (w.heap.size + 1) W0 W → W.cell? ⟨bb0, off0 + 7, none⟩ = some c1_0 := fun W hW => hcc1 W (Hw.out W hW) 0 _ rfl
  have a1_1 : ∀ W : World, Below (w.heap.size + 1) W0 W → W.cell? ⟨bb0, off0 + 8, none⟩ = some c1_1 := fun W hW => hcc1 W (Hw.out W hW) 1 _ rfl
  have a1_2 : ∀ W : World, Below (w.heap.size + 1) W0 W → W.cell? ⟨bb0, off0 + 9, none⟩ = some c1_2 := fun W hW => hcc1 W (Hw.out W hW) 2 _ rfl
  have a1_3 : ∀ W : World, Below (w.heap.size + 1) W0 W → W.cell? ⟨bb0, off0 + 10, none⟩ = some c1_3 := fun W hW => hcc1 W (Hw.out W hW) 3 _ rfl
  have a1_4 : ∀ W : World, Below (w.heap.size + 1) W0 W → W.cell? ⟨bb0, off0 + 11, none⟩ = some c1_4 := fun W hW => hcc1 W (Hw.out W hW) 4 _ rfl
  have a1_5 : ∀ W : World, Below (w.heap.size + 1) W0 W → W.cell? ⟨bb0, off0 + 12, none⟩ = some c1_5 := fun W hW => hcc1 W (Hw.out W hW) 5 _ rfl
  have a1_6 : ∀ W : World, Below (w.heap.size + 1) W0 W → W.cell? ⟨bb0, off0 + 13, none⟩ = some c1_6 := fun W hW => hcc1 W (Hw.out W hW) 6 _ rfl
  have a2_0 : ∀ W : World, Below (w.heap.size + 1) W0 W → W.cell? ⟨bb0, off0 + 14, none⟩ = some c2_0 := fun W hW => hcc2 W (Hw.out W hW) 0 _ rfl
  have a2_1 : ∀ W : World, Below (w.heap.size + 1) W0 W → W.cell? ⟨bb0, off0 + 15, none⟩ = some c2_1 := fun W hW => hcc2 W (Hw.out W hW) 1 _ rfl
  have a2_2 : ∀ W : World, Below (w.heap.size + 1) W0 W → W.cell? ⟨bb0, off0 + 16, none⟩ = some c2_2 := fun W hW => hcc2 W (Hw.out W hW) 2 _ rfl
  have a2_3 : ∀ W : World, Below (w.heap.size + 1) W0 W → W.cell? ⟨bb0, off0 + 17, none⟩ = some c2_3 := fun W hW => hcc2 W (Hw.out W hW) 3 _ rfl
  have a2_4 : ∀ W : World, Below (w.heap.size + 1) W0 W → W.cell? ⟨bb0, off0 + 18, none⟩ = some c2_4 := fun W hW => hcc2 W (Hw.out W hW) 4 _ rfl
  have a2_5 : ∀ W : World, Below (w.heap.size + 1) W0 W → W.cell? ⟨bb0, off0 + 19, none⟩ = some c2_5 := fun W hW => hcc2 W (Hw.out W hW) 5 _ rfl
  have a2_6 : ∀ W : World, Below (w.heap.size + 1) W0 W → W.cell? ⟨bb0, off0 + 20, none⟩ = some c2_6 := fun W hW => hcc2 W (Hw.out W hW) 6 _ rfl
  clear hcc0
  clear hcc1
  clear hcc2
  clear C hz0
  obtain ⟨T0, hT0⟩ : ∃ T, T = txE d x0 := ⟨_, rfl⟩
  obtain ⟨T1, hT1⟩ : ∃ T, T = txE d x1 := ⟨_, rfl⟩
  obtain ⟨T2, hT2⟩ : ∃ T, T = txE d x2 := ⟨_, rfl⟩
  rw [← hT0, ← hT1, ← hT2] at Hr
  rw [← hT0] at hs0
  have HT_0 := hide hT0
  clear hT0
  rw [← hT1] at hs1
  have HT_1 := hide hT1
  clear hT1
  rw [← hT2] at hs2
  have HT_2 := hide hT2
  clear hT2
  have q0 : ¬ 9223372036854775807 < 3 + T0.size := by omega
  have q1 : ¬ 9223372036854775807 < 3 + T0.size + 6 := by omega
  have q2 : ¬ 9223372036854775807 < 3 + T0.size + 6 + T1.size := by omega
  have q3 : ¬ 9223372036854775807 < 3 + T0.size + 6 + T1.size + 6 := by omega
  have q4 : ¬ 9223372036854775807 < 3 + T0.size + 6 + T1.size + 6 + T2.size := by omega
  go_region_held3 (fun W => Below (w.heap.size + 1) W0 W) (first | assumption | exact Below.drew (by assumption))
    (first
      | (go_at_call_has 52 c0_0; refine Calls.mono (hE x0 _ Fk0 _ (HR0.out _ (Hw.out _ (by first | assumption | exact Below.drew (by assumption)))) Hva0.out hc0) ?_; rintro en W1 ⟨rfl, hb⟩; have hB1 : Below (w.heap.size + 1) W0 W1 := below_step (by first | assumption | exact Below.drew (by assumption)) hn0 hb; clear hb; rw [← HT_0.out])
      | (go_at_call_has 52 c1_0; refine Calls.mono (hE x1 _ Fk1 _ (HR1.out _ (Hw.out _ (by first | assumption | exact Below.drew (by assumption)))) Hva1.out hc1) ?_; rintro en W2 ⟨rfl, hb⟩; have hB2 : Below (w.heap.size + 1) W0 W2 := below_step (by first | assumption | exact Below.drew (by assumption)) hn0 hb; clear hb; rw [← HT_1.out])
      | (go_at_call_has 52 c2_0; refine Calls.mono (hE x2 _ Fk2 _ (HR2.out _ (Hw.out _ (by first | assumption | exact Below.drew (by assumption)))) Hva2.out hc2) ?_; rintro en W3 ⟨rfl, hb⟩; have hB3 : Below (w.heap.size + 1) W0 W3 := below_step (by first | assumption | exact Below.drew (by assumption)) hn0 hb; clear hb; rw [← HT_2.out]))
  all_goals
    go_wp2_with fail
    go_ret
    exact ⟨ret_string Hr.out.symm, Hw.out _ hB3⟩
set_option maxRecDepth 100000 in
set_option maxHeartbeats 2000000 in
theorem s_tx8 {d : Nat} (hE : TxS d) (n p t : Int) (s m : ByteArray) (x0 : Ex) (cs : List Value) (F : List Nat) (w : World) (h : ExR (d + 1) w (.mk ⟨8, n, p, t, s, m⟩ [x0]) cs F) (hv : allE okN (d + 1) (.mk ⟨8, n, p, t, s, m⟩ [x0]) = true) (hc : cntE (d + 1) (.mk ⟨8, n, p, t, s, m⟩ [x0]) ≤ 24) :
    Calls Tryz.prog 52 #[.agg cs.toArray] w fun en w' => en = .returned (.string (txE (d + 1) (.mk ⟨8, n, p, t, s, m⟩ [x0]))) ∧ Below w.heap.size w w' := by
  obtain ⟨A, cap, rfl, hok, hl, hm, hs⟩ := ex_form h
  simp only [Ex.args, Ex.h, List.length_cons, List.length_nil] at hs hl hm hok
  have hv' : (okN (.mk ⟨8, n, p, t, s, m⟩ [x0]) && ([x0] : List Ex).all (allE okN d)) = true := hv
  rw [Bool.and_eq_true] at hv'
  obtain ⟨hn, hall⟩ := hv'
  have hn : nodeB 8 n p t s m 1 = true := hn
  have hcnt : 1 + sumBy (cntE d) [x0] ≤ 24 := hc
  have HF := hide (hs.lt (ExR.good d))
  obtain ⟨n0, n1⟩ := wf_i64 hok.n
  obtain ⟨p0, p1⟩ := wf_i64 hok.pos
  simp only at n0 n1 p0 p1
  unfold maxLen at hm
  have hnn := cntE_nonneg d
  have hq0 := hnn x0
  simp only [sumBy] at hcnt
  simp only [List.all_cons, List.all_nil, Bool.and_true, Bool.and_eq_true] at hall
  have Hva0 : Hid (allE okN d x0 = true) := hide hall
  have hc0 : cntE d x0 ≤ 24 := by omega
  obtain ⟨bb0, off0, hA0, hbl0, c0_0, c0_1, c0_2, c0_3, c0_4, c0_5, c0_6, hcc0, Fk0, hR0⟩ := ex_arg hs (k := 0) (x := x0) rfl
  have Hsz0 := hide (tx_short (hR0 w (Below.refl _ _)) Hva0.out hc0)
  subst hA0
  have HR0 := hide hR0
  clear hall hR0 hnn hq0
  have Hr : Hid (txE (d + 1) (.mk ⟨8, n, p, t, s, m⟩ [x0]) = s ++ ⟨#[46]⟩ ++ m ++ ⟨#[32, 111, 102, 32]⟩ ++ atL (levH x0.h) 4 (txE d x0)) := hide rfl
  have hs0 := Nat.le_trans (atL_size (levH x0.h) 4 (txE d x0)) (Nat.add_le_add_right Hsz0.out 2)
  have hms : m.size ≤ 8 := by unfold nodeB at hn; simp at hn; exact validN_size hn.2
  have hss : s.size ≤ 8 := by unfold nodeB at hn; simp at hn; exact validN_size hn.1.2
  clear hn hcnt
  obtain ⟨C, hz0, hw0⟩ := boxes1 w [.int .i64 8, .int .i64 n, .int .i64 p, .int .i64 t, .string s, .string m, .slice (some ⟨bb0, off0, none⟩) 1 cap] 59
  show Calls _ _ #[.agg #[.int .i64 8, .int .i64 n, .int .i64 p, .int .i64 t, .string s, .string m, .slice (some ⟨bb0, off0, none⟩) 1 cap]] w _
  clear h hv hc hs
  go_enter Tryz.func52, Tryz.ntmps52
  go_wp2_with fail
  generalize w.alloc (Obj.cells #[.int .i64 8, .int .i64 n, .int .i64 p, .int .i64 t, .string s, .string m, .slice (some ⟨bb0, off0, none⟩) 1 cap] 59) = W0 at C hz0 hw0 ⊢
  have hn0 : w.heap.size + 1 ≤ W0.heap.size := by omega
  have Hw : Hid (∀ W : World, Below (w.heap.size + 1) W0 W → Below w.heap.size w W) := hide fun W h => hw0.trans (h.mono (by omega))
  have e0 := cell_rule C (n := w.heap.size + 1) (by omega) 0 (v := .int .i64 8) rfl
  have e1 := cell_rule C (n := w.heap.size + 1) (by omega) 1 (v := .int .i64 n) rfl
  have e2 := cell_rule C (n := w.heap.size + 1) (by omega) 2 (v := .int .i64 p) rfl
  have e3 := cell_rule C (n := w.heap.size + 1) (by omega) 3 (v := .int .i64 t) rfl
  have e4 := cell_rule C (n := w.heap.size + 1) (by omega) 4 (v := .string s) rfl
  have e5 := cell_rule C (n := w.heap.size + 1) (by omega) 5 (v := .string m) rfl
  have e6 := cell_rule C (n := w.heap.size + 1) (by omega) 6 (v := .slice (some ⟨bb0, off0, none⟩) 1 cap) rfl
  have hB0 : Below (w.heap.size + 1) W0 W0 := Below.refl _ _
  have a0_0 : ∀ W : World, Below (w.heap.size + 1) W0 W → W.cell? ⟨bb0, off0, none⟩ = some c0_0 := fun W hW => hcc0 W (Hw.out W hW) 0 _ rfl
  have a0_1 : ∀ W : World, Below (w.heap.size + 1) W0 W → W.cell? ⟨bb0, off0 + 1, none⟩ = some c0_1 := fun W hW => hcc0 W (Hw.out W hW) 1 _ rfl
  have a0_2 : ∀ W : World, Below (w.heap.size + 1) W0 W → W.cell? ⟨bb0, off0 + 2, none⟩ = some c0_2 := fun W hW => hcc0 W (Hw.out W hW) 2 _ rfl
  have a0_3 : ∀ W : World, Below (w.heap.size + 1) W0 W → W.cell? ⟨bb0, off0 + 3, none⟩ = some c0_3 := fun W hW => hcc0 W (Hw.out W hW) 3 _ rfl
  have a0_4 : ∀ W : World, Below (w.heap.size + 1) W0 W → W.cell? ⟨bb0, off0 + 4, none⟩ = some c0_4 := fun W hW => hcc0 W (Hw.out W hW) 4 _ rfl
  have a0_5 : ∀ W : World, Below (w.heap.size + 1) W0 W → W.cell? ⟨bb0, off0 + 5, none⟩ = some c0_5 := fun W hW => hcc0 W (Hw.out W hW) 5 _ rfl
  have a0_6 : ∀ W : World, Below (w.heap.size + 1) W0 W → W.cell? ⟨bb0, off0 + 6, none⟩ = some c0_6 := fun W hW => hcc0 W (Hw.out W hW) 6 _ rfl
  clear hcc0
  clear C hz0
  obtain ⟨T, hT⟩ : ∃ T, T = atL (levH x0.h) 4 (txE d x0) := ⟨_, rfl⟩
  rw [← hT] at Hr hs0
  have HT_0 := hide hT
  clear hT
  have q0 : ¬ 9223372036854775807 < s.size + 1 := by omega
  have q1 : ¬ 9223372036854775807 < s.size + 1 + m.size := by omega
  have q2 : ¬ 9223372036854775807 < s.size + 1 + m.size + 4 := by omega
  have q3 : ¬ 9223372036854775807 < s.size + 1 + m.size + 4 + T.size := by omega
  go_region_held3 (fun W => Below (w.heap.size + 1) W0 W) (first | assumption | exact Below.drew (by assumption))
    (first | (go_at_call_has 82 c0_0; refine Calls.mono (s_atE hE x0 _ Fk0 _ (HR0.out _ (Hw.out _ (by first | assumption | exact Below.drew (by assumption)))) Hva0.out hc0 4) ?_; rintro en W1 ⟨rfl, hb⟩; have hB1 : Below (w.heap.size + 1) W0 W1 := below_step (by first | assumption | exact Below.drew (by assumption)) hn0 hb; clear hb; rw [← HT_0.out]))
  all_goals
    go_wp2_with fail
    go_ret
    exact ⟨ret_string Hr.out.symm, Hw.out _ hB1⟩
end Go.Proofs.YtjddmboaaebbiaaGreatDoor

/- Expressions as text: the program. Conditions: the expression is valid, and the library's table of powers is laid. -/
namespace Go.Proofs.YtjddmboaaebbiaaGreatDoor
set_option linter.unusedSimpArgs false
set_option linter.unusedVariables false
set_option maxRecDepth 100000
open Go.RowKit Go.Lib Go.WideShapes
set_option linter.unusedVariables false

def TxI (d : Nat) : Prop := ∀ (e : Ex) (cs : List Value) (F : List Nat) (w : World), ExR d w e cs F → allE okN d e = true → cntE d e ≤ 24 → TabIs Tryz.prog w "internal/strconv.uint64pow10" .u64 pow10Tab →
    Calls Tryz.prog 30 #[.agg cs.toArray] w fun en w' => en = .returned (.string (txE d e)) ∧ Below w.heap.size w w'
set_option maxRecDepth 100000 in
set_option maxHeartbeats 1000000 in
theorem i_atE {d : Nat} (hE : TxI d) (e : Ex) (cs : List Value) (F : List Nat) (w : World) (h : ExR d w e cs F) (hv : allE okN d e = true) (hc : cntE d e ≤ 24) (need : Int) (htab : TabIs Tryz.prog w "internal/strconv.uint64pow10" .u64 pow10Tab) :
    Calls Tryz.prog 60 #[.agg cs.toArray, .int .i64 need] w fun en w' => en = .returned (.string (atL (levH e.h) need (txE d e))) ∧ Below w.heap.size w w' := by
  have HT : Hid (∀ W : World, Below w.heap.size w W → TabIs Tryz.prog W "internal/strconv.uint64pow10" .u64 pow10Tab) := hide (tabBelow_of_tabIs htab)
  clear htab
  have hsz := tx_short h hv hc
  have HFe := hide ((ExR.good d).lt h)
  obtain ⟨v0, v1, v2, v3, v4, v5, v6, rfl⟩ := list7 ((ExR.good d).len h)
  have HX0 : Hid (∀ W : World, Below w.heap.size w W → ExR d W e [v0, v1, v2, v3, v4, v5, v6] F) := hide fun W hW => (ExR.good d).below h hW HFe.out
  obtain ⟨C, hz0, hw0⟩ := boxes1 w [v0, v1, v2, v3, v4, v5, v6] 59
  show Calls _ _ #[.agg #[v0, v1, v2, v3, v4, v5, v6], .int .i64 need] w _
  obtain ⟨T, hT⟩ : ∃ T, txE d e = T := ⟨_, rfl⟩
  obtain ⟨lv, hlv⟩ : ∃ lv, levH e.h = lv := ⟨_, rfl⟩
  have Hr0 : Hid (atL (levH e.h) need (txE d e) = atL lv need T) := hide (by rw [hT, hlv])
  rw [hT] at hsz
  have HeT := hide hT
  have HeL := hide hlv
  clear hT hlv
  have Hv := hide hv
  clear h hv
  go_enter Tryz.func60, Tryz.ntmps60
  go_wp2_with fail
  generalize w.alloc (Obj.cells #[v0, v1, v2, v3, v4, v5, v6] 59) = W0 at C hz0 hw0 ⊢
  have hn0 : w.heap.size + 1 ≤ W0.heap.size := by omega
  have Hw : Hid (∀ W : World, Below (w.heap.size + 1) W0 W → Below w.heap.size w W) := hide fun W h => hw0.trans (h.mono (by omega))
  have e0 := cell_rule C (n := w.heap.size + 1) (by omega) 0 (v := v0) rfl
  have e1 := cell_rule C (n := w.heap.size + 1) (by omega) 1 (v := v1) rfl
  have e2 := cell_rule C (n := w.heap.size + 1) (by omega) 2 (v := v2) rfl
  have e3 := cell_rule C (n := w.heap.size + 1) (by omega) 3 (v := v3) rfl
  have e4 := cell_rule C (n := w.heap.size + 1) (by omega) 4 (v := v4) rfl
  have e5 := cell_rule C (n := w.heap.size + 1) (by omega) 5 (v := v5) rfl
  have e6 := cell_rule C (n := w.heap.size + 1) (by omega) 6 (v := v6) rfl
  have hB0 : Below (w.heap.size + 1) W0 W0 := Below.refl _ _
  clear C hz0 hw0
  refine Calls.mono (i_LevelOf d e _ F _ (HX0.out _ (Hw.out _ hB0))) ?_
  rintro en W1 ⟨rfl, hb⟩
  have hB1 : Below (w.heap.size + 1) W0 W1 := below_step hB0 hn0 hb
  clear hb
  rw [HeL.out]
  by_cases hl : lv < need
  · have Hr : Hid (atL (levH e.h) need (txE d e) = ⟨#[40]⟩ ++ T ++ ⟨#[41]⟩) := hide (by rw [Hr0.out]; unfold atL; rw [if_pos hl])
    go_wp2_with fail
    refine Calls.mono (hE e _ F _ (HX0.out _ (Hw.out _ hB1)) Hv.out hc (HT.out _ (Hw.out _ hB1))) ?_
    rintro en W2 ⟨rfl, hb⟩
    have hB2 : Below (w.heap.size + 1) W0 W2 := below_step hB1 hn0 hb
    clear hb
    rw [HeT.out]
    go_wp2_with fail
    go_ret
    exact ⟨ret_string Hr.out.symm, Hw.out _ hB2⟩
  · have Hr : Hid (atL (levH e.h) need (txE d e) = T) := hide (by rw [Hr0.out]; unfold atL; rw [if_neg hl])
    go_wp2_with fail
    refine Calls.mono (hE e _ F _ (HX0.out _ (Hw.out _ hB1)) Hv.out hc (HT.out _ (Hw.out _ hB1))) ?_
    rintro en W2 ⟨rfl, hb⟩
    have hB2 : Below (w.heap.size + 1) W0 W2 := below_step hB1 hn0 hb
    clear hb
    rw [HeT.out]
    go_wp2_with fail
    go_ret
    exact ⟨ret_string Hr.out.symm, Hw.out _ hB2⟩
set_option maxRecDepth 100000 in
set_option maxHeartbeats 2000000 in
theorem i_tx2 {d : Nat} (hE : TxI d) (n p t : Int) (s m : ByteArray) (cs : List Value) (F : List Nat) (w : World) (h : ExR (d + 1) w (.mk ⟨2, n, p, t, s, m⟩ []) cs F) (hv : allE okN (d + 1) (.mk ⟨2, n, p, t, s, m⟩ []) = true) (hc : cntE (d + 1) (.mk ⟨2, n, p, t, s, m⟩ []) ≤ 24) (htab : TabIs Tryz.prog w "internal/strconv.uint64pow10" .u64 pow10Tab) :
    Calls Tryz.prog 30 #[.agg cs.toArray] w fun en w' => en = .returned (.string (txE (d + 1) (.mk ⟨2, n, p, t, s, m⟩ []))) ∧ Below w.heap.size w w' := by
  have HT : Hid (∀ W : World, Below w.heap.size w W → TabIs Tryz.prog W "internal/strconv.uint64pow10" .u64 pow10Tab) := hide (tabBelow_of_tabIs htab)
  clear htab
  obtain ⟨A, cap, rfl, hok, hl, hm, hs⟩ := ex_form h
  simp only [Ex.args, Ex.h, List.length_cons, List.length_nil] at hs hl hm hok
  have hv' : (okN (.mk ⟨2, n, p, t, s, m⟩ []) && ([] : List Ex).all (allE okN d)) = true := hv
  rw [Bool.and_eq_true] at hv'
  obtain ⟨hn, hall⟩ := hv'
  have hn : nodeB 2 n p t s m 0 = true := hn
  have hcnt : 1 + sumBy (cntE d) [] ≤ 24 := hc
  obtain ⟨n0, n1⟩ := wf_i64 hok.n
  obtain ⟨p0, p1⟩ := wf_i64 hok.pos
  simp only at n0 n1 p0 p1
  unfold maxLen at hm
  have Hr : Hid (txE (d + 1) (.mk ⟨2, n, p, t, s, m⟩ []) = ⟨#[108, 105, 116]⟩) := hide rfl
  obtain ⟨C, hz0, hw0⟩ := boxes1 w [.int .i64 2, .int .i64 n, .int .i64 p, .int .i64 t, .string s, .string m, .slice A 0 cap] 59
  show Calls _ _ #[.agg #[.int .i64 2, .int .i64 n, .int .i64 p, .int .i64 t, .string s, .string m, .slice A 0 cap]] w _
  clear h hv hc hs
  go_enter Tryz.func30, Tryz.ntmps30
  go_wp2_with fail
  go_ret
  exact ⟨ret_string Hr.out.symm, hw0⟩
set_option maxRecDepth 100000 in
set_option maxHeartbeats 2000000 in
theorem i_tx7 {d : Nat} (hE : TxI d) (n p t : Int) (s m : ByteArray) (cs : List Value) (F : List Nat) (w : World) (h : ExR (d + 1) w (.mk ⟨7, n, p, t, s, m⟩ []) cs F) (hv : allE okN (d + 1) (.mk ⟨7, n, p, t, s, m⟩ []) = true) (hc : cntE (d + 1) (.mk ⟨7, n, p, t, s, m⟩ []) ≤ 24) (htab : TabIs Tryz.prog w "internal/strconv.uint64pow10" .u64 pow10Tab) :
    Calls Tryz.prog 30 #[.agg cs.toArray] w fun en w' => en = .returned (.string (txE (d + 1) (.mk ⟨7, n, p, t, s, m⟩ []))) ∧ Below w.heap.size w w' := by
  have HT : Hid (∀ W : World, Below w.heap.size w W → TabIs Tryz.prog W "internal/strconv.uint64pow10" .u64 pow10Tab) := hide (tabBelow_of_tabIs htab)
  clear htab
  obtain ⟨A, cap, rfl, hok, hl, hm, hs⟩ := ex_form h
  simp only [Ex.args, Ex.h, List.length_cons, List.length_nil] at hs hl hm hok
  have hv' : (okN (.mk ⟨7, n, p, t, s, m⟩ []) && ([] : List Ex).all (allE okN d)) = true := hv
  rw [Bool.and_eq_true] at hv'
  obtain ⟨hn, hall⟩ := hv'
  have hn : nodeB 7 n p t s m 0 = true := hn
  have hcnt : 1 + sumBy (cntE d) [] ≤ 24 := hc
  obtain ⟨n0, n1⟩ := wf_i64 hok.n
  obtain ⟨p0, p1⟩ := wf_i64 hok.pos
  simp only at n0 n1 p0 p1
  unfold maxLen at hm
  have Hr : Hid (txE (d + 1) (.mk ⟨7, n, p, t, s, m⟩ []) = ⟨#[110, 111, 110, 101]⟩) := hide rfl
  obtain ⟨C, hz0, hw0⟩ := boxes1 w [.int .i64 7, .int .i64 n, .int .i64 p, .int .i64 t, .string s, .string m, .slice A 0 cap] 59
  show Calls _ _ #[.agg #[.int .i64 7, .int .i64 n, .int .i64 p, .int .i64 t, .string s, .string m, .slice A 0 cap]] w _
  clear h hv hc hs
  go_enter Tryz.func30, Tryz.ntmps30
  go_wp2_with fail
  go_ret
  exact ⟨ret_string Hr.out.symm, hw0⟩
set_option maxRecDepth 100000 in
set_option maxHeartbeats 2000000 in
theorem i_tx1 {d : Nat} (hE : TxI d) (n p t : Int) (s m : ByteArray) (cs : List Value) (F : List Nat) (w : World) (h : ExR (d + 1) w (.mk ⟨1, n, p, t, s, m⟩ []) cs F) (hv : allE okN (d + 1) (.mk ⟨1, n, p, t, s, m⟩ []) = true) (hc : cntE (d + 1) (.mk ⟨1, n, p, t, s, m⟩ []) ≤ 24) (htab : TabIs Tryz.prog w "internal/strconv.uint64pow10" .u64 pow10Tab) :
    Calls Tryz.prog 30 #[.agg cs.toArray] w fun en w' => en = .returned (.string (txE (d + 1) (.mk ⟨1, n, p, t, s, m⟩ []))) ∧ Below w.heap.size w w' := by
  have HT : Hid (∀ W : World, Below w.heap.size w W → TabIs Tryz.prog W "internal/strconv.uint64pow10" .u64 pow10Tab) := hide (tabBelow_of_tabIs htab)
  clear htab
  obtain ⟨A, cap, rfl, hok, hl, hm, hs⟩ := ex_form h
  simp only [Ex.args, Ex.h, List.length_cons, List.length_nil] at hs hl hm hok
  have hv' : (okN (.mk ⟨1, n, p, t, s, m⟩ []) && ([] : List Ex).all (allE okN d)) = true := hv
  rw [Bool.and_eq_true] at hv'
  obtain ⟨hn, hall⟩ := hv'
  have hn : nodeB 1 n p t s m 0 = true := hn
  have hcnt : 1 + sumBy (cntE d) [] ≤ 24 := hc
  obtain ⟨n0, n1⟩ := wf_i64 hok.n
  obtain ⟨p0, p1⟩ := wf_i64 hok.pos
  simp only at n0 n1 p0 p1
  unfold maxLen at hm
  have Hr : Hid (txE (d + 1) (.mk ⟨1, n, p, t, s, m⟩ []) = fmtTyped n t) := hide rfl
  obtain ⟨C, hz0, hw0⟩ := boxes1 w [.int .i64 1, .int .i64 n, .int .i64 p, .int .i64 t, .string s, .string m, .slice A 0 cap] 59
  show Calls _ _ #[.agg #[.int .i64 1, .int .i64 n, .int .i64 p, .int .i64 t, .string s, .string m, .slice A 0 cap]] w _
  clear h hv hc hs
  go_enter Tryz.func30, Tryz.ntmps30
  go_wp2_with fail
  refine Calls.mono (i_FormatTyped n t n0 n1 _ (HT.out _ hw0)) ?_
  rintro en W1 ⟨rfl, hb⟩
  have hB1 := hw0.trans (hb.mono hw0.size)
  clear hb
  go_wp2_with fail
  go_ret
  exact ⟨ret_string Hr.out.symm, hB1⟩
set_option maxRecDepth 100000 in
set_option maxHeartbeats 2000000 in
theorem i_tx6 {d : Nat} (hE : TxI d) (n p t : Int) (s m : ByteArray) (cs : List Value) (F : List Nat) (w : World) (h : ExR (d + 1) w (.mk ⟨6, n, p, t, s, m⟩ []) cs F) (hv : allE okN (d + 1) (.mk ⟨6, n, p, t, s, m⟩ []) = true) (hc : cntE (d + 1) (.mk ⟨6, n, p, t, s, m⟩ []) ≤ 24) (htab : TabIs Tryz.prog w "internal/strconv.uint64pow10" .u64 pow10Tab) :
    Calls Tryz.prog 30 #[.agg cs.toArray] w fun en w' => en = .returned (.string (txE (d + 1) (.mk ⟨6, n, p, t, s, m⟩ []))) ∧ Below w.heap.size w w' := by
  have HT : Hid (∀ W : World, Below w.heap.size w W → TabIs Tryz.prog W "internal/strconv.uint64pow10" .u64 pow10Tab) := hide (tabBelow_of_tabIs htab)
  clear htab
  obtain ⟨A, cap, rfl, hok, hl, hm, hs⟩ := ex_form h
  simp only [Ex.args, Ex.h, List.length_cons, List.length_nil] at hs hl hm hok
  have hv' : (okN (.mk ⟨6, n, p, t, s, m⟩ []) && ([] : List Ex).all (allE okN d)) = true := hv
  rw [Bool.and_eq_true] at hv'
  obtain ⟨hn, hall⟩ := hv'
  have hn : nodeB 6 n p t s m 0 = true := hn
  have hcnt : 1 + sumBy (cntE d) [] ≤ 24 := hc
  obtain ⟨n0, n1⟩ := wf_i64 hok.n
  obtain ⟨p0, p1⟩ := wf_i64 hok.pos
  simp only at n0 n1 p0 p1
  unfold maxLen at hm
  have Hr : Hid (txE (d + 1) (.mk ⟨6, n, p, t, s, m⟩ []) = ⟨#[115, 101, 108, 102, 40]⟩ ++ num p ++ ⟨#[41]⟩) := hide rfl
  have hns := num_size p0 p1
  obtain ⟨C, hz0, hw0⟩ := boxes1 w [.int .i64 6, .int .i64 n, .int .i64 p, .int .i64 t, .string s, .string m, .slice A 0 cap] 59
  show Calls _ _ #[.agg #[.int .i64 6, .int .i64 n, .int .i64 p, .int .i64 t, .string s, .string m, .slice A 0 cap]] w _
  clear h hv hc hs
  go_enter Tryz.func30, Tryz.ntmps30
  go_wp2_with fail
  refine Calls.mono (i_FormatInt p p0 p1 _ (HT.out _ hw0)) ?_
  rintro en W1 ⟨rfl, hb⟩
  have hB1 := hw0.trans (hb.mono hw0.size)
  clear hb
  rw [show (⟨(itoa p).toArray⟩ : ByteArray) = num p from rfl]
  generalize num p = N at Hr hns ⊢
  go_wp2_with fail
  go_ret
  exact ⟨ret_string Hr.out.symm, hB1⟩
set_option maxRecDepth 100000 in
set_option maxHeartbeats 2000000 in
theorem i_tx3 {d : Nat} (hE : TxI d) (n p t : Int) (s m : ByteArray) (cs : List Value) (F : List Nat) (w : World) (h : ExR (d + 1) w (.mk ⟨3, n, p, t, s, m⟩ []) cs F) (hv : allE okN (d + 1) (.mk ⟨3, n, p, t, s, m⟩ []) = true) (hc : cntE (d + 1) (.mk ⟨3, n, p, t, s, m⟩ []) ≤ 24) (htab : TabIs Tryz.prog w "internal/strconv.uint64pow10" .u64 pow10Tab) :
    Calls Tryz.prog 30 #[.agg cs.toArray] w fun en w' => en = .returned (.string (txE (d + 1) (.mk ⟨3, n, p, t, s, m⟩ []))) ∧ Below w.heap.size w w' := by
  have HT : Hid (∀ W : World, Below w.heap.size w W → TabIs Tryz.prog W "internal/strconv.uint64pow10" .u64 pow10Tab) := hide (tabBelow_of_tabIs htab)
  clear htab
  obtain ⟨A, cap, rfl, hok, hl, hm, hs⟩ := ex_form h
  simp only [Ex.args, Ex.h, List.length_cons, List.length_nil] at hs hl hm hok
  have hv' : (okN (.mk ⟨3, n, p, t, s, m⟩ []) && ([] : List Ex).all (allE okN d)) = true := hv
  rw [Bool.and_eq_true] at hv'
  obtain ⟨hn, hall⟩ := hv'
  have hn : nodeB 3 n p t s m 0 = true := hn
  have hcnt : 1 + sumBy (cntE d) [] ≤ 24 := hc
  obtain ⟨n0, n1⟩ := wf_i64 hok.n
  obtain ⟨p0, p1⟩ := wf_i64 hok.pos
  simp only at n0 n1 p0 p1
  unfold maxLen at hm
  have Hr : Hid (txE (d + 1) (.mk ⟨3, n, p, t, s, m⟩ []) = ⟨#[36]⟩ ++ num p ++ ⟨#[46]⟩ ++ m) := hide rfl
  have hns := num_size p0 p1
  have hms : m.size ≤ 8 := by unfold nodeB at hn; simp at hn; exact validN_size hn.2
  clear hn hcnt
  obtain ⟨C, hz0, hw0⟩ := boxes1 w [.int .i64 3, .int .i64 n, .int .i64 p, .int .i64 t, .string s, .string m, .slice A 0 cap] 59
  show Calls _ _ #[.agg #[.int .i64 3, .int .i64 n, .int .i64 p, .int .i64 t, .string s, .string m, .slice A 0 cap]] w _
  clear h hv hc hs
  go_enter Tryz.func30, Tryz.ntmps30
  go_wp2_with fail
  generalize w.alloc (Obj.cells #[.int .i64 3, .int .i64 n, .int .i64 p, .int .i64 t, .string s, .string m, .slice A 0 cap] 59) = W0 at C hz0 hw0 ⊢
  have hn0 : w.heap.size + 1 ≤ W0.heap.size := by omega
  have Hw : Hid (∀ W : World, Below (w.heap.size + 1) W0 W → Below w.heap.size w W) := hide fun W h => hw0.trans (h.mono (by omega))
  have e0 := cell_rule C (n := w.heap.size + 1) (by omega) 0 (v := .int .i64 3) rfl
  have e1 := cell_rule C (n := w.heap.size + 1) (by omega) 1 (v := .int .i64 n) rfl
  have e2 := cell_rule C (n := w.heap.size + 1) (by omega) 2 (v := .int .i64 p) rfl
  have e3 := cell_rule C (n := w.heap.size + 1) (by omega) 3 (v := .int .i64 t) rfl
  have e4 := cell_rule C (n := w.heap.size + 1) (by omega) 4 (v := .string s) rfl
  have e5 := cell_rule C (n := w.heap.size + 1) (by omega) 5 (v := .string m) rfl
  have e6 := cell_rule C (n := w.heap.size + 1) (by omega) 6 (v := .slice A 0 cap) rfl
  have hB0 : Below (w.heap.size + 1) W0 W0 := Below.refl _ _
  clear C hz0
  have q0 : ¬ 9223372036854775807 < 1 + (num p).size := by omega
  have q1 : ¬ 9223372036854775807 < 1 + (num p).size + 1 := by omega
  have q2 : ¬ 9223372036854775807 < 1 + (num p).size + 1 + m.size := by omega
  go_region_held3 (fun W => Below (w.heap.size + 1) W0 W) (first | assumption | exact Below.drew (by assumption))
    (first | (go_at_call 29; refine Calls.mono (i_FormatInt p p0 p1 _ (HT.out _ (Hw.out _ (by first | assumption | exact Below.drew (by assumption))))) ?_; rintro en W1 ⟨rfl, hb⟩; have hB1 : Below (w.heap.size + 1) W0 W1 := below_step (by first | assumption | exact Below.drew (by assumption)) hn0 hb; clear hb; rw [show (⟨(itoa p).toArray⟩ : ByteArray) = num p from rfl]; generalize num p = N at Hr hns q0 q1 q2 ⊢))
  go_wp2_with fail
  go_ret
  exact ⟨ret_string Hr.out.symm, Hw.out _ hB1⟩
set_option maxRecDepth 100000 in
set_option maxHeartbeats 2000000 in
theorem i_tx5 {d : Nat} (hE : TxI d) (n p t : Int) (s m : ByteArray) (x0 x1 x2 : Ex) (cs : List Value) (F : List Nat) (w : World) (h : ExR (d + 1) w (.mk ⟨5, n, p, t, s, m⟩ [x0, x1, x2]) cs F) (hv : allE okN (d + 1) (.mk ⟨5, n, p, t, s, m⟩ [x0, x1, x2]) = true) (hc : cntE (d + 1) (.mk ⟨5, n, p, t, s, m⟩ [x0, x1, x2]) ≤ 24) (htab : TabIs Tryz.prog w "internal/strconv.uint64pow10" .u64 pow10Tab) :
    Calls Tryz.prog 30 #[.agg cs.toArray] w fun en w' => en = .returned (.string (txE (d + 1) (.mk ⟨5, n, p, t, s, m⟩ [x0, x1, x2]))) ∧ Below w.heap.size w w' := by
  have HT : Hid (∀ W : World, Below w.heap.size w W → TabIs Tryz.prog W "internal/strconv.uint64pow10" .u64 pow10Tab) := hide (tabBelow_of_tabIs htab)
  clear htab
  obtain ⟨A, cap, rfl, hok, hl, hm, hs⟩ := ex_form h
  simp only [Ex.args, Ex.h, List.length_cons, List.length_nil] at hs hl hm hok
  have hv' : (okN (.mk ⟨5, n, p, t, s, m⟩ [x0, x1, x2]) && ([x0, x1, x2] : List Ex).all (allE okN d)) = true := hv
  rw [Bool.and_eq_true] at hv'
  obtain ⟨hn, hall⟩ := hv'
  have hn : nodeB 5 n p t s m 3 = true := hn
  have hcnt : 1 + sumBy (cntE d) [x0, x1, x2] ≤ 24 := hc
  have HF := hide (hs.lt (ExR.good d))
  obtain ⟨n0, n1⟩ := wf_i64 hok.n
  obtain ⟨p0, p1⟩ := wf_i64 hok.pos
  simp only at n0 n1 p0 p1
  unfold maxLen at hm
  have hnn := cntE_nonneg d
  have hq0 := hnn x0
  have hq1 := hnn x1
  have hq2 := hnn x2
  simp only [sumBy] at hcnt
  simp only [List.all_cons, List.all_nil, Bool.and_true, Bool.and_eq_true] at hall
  have Hva0 : Hid (allE okN d x0 = true) := hide hall.1
  have hc0 : cntE d x0 ≤ 24 := by omega
  have Hva1 : Hid (allE okN d x1 = true) := hide hall.2.1
  have hc1 : cntE d x1 ≤ 24 := by omega
  have Hva2 : Hid (allE okN d x2 = true) := hide hall.2.2
  have hc2 : cntE d x2 ≤ 24 := by omega
  obtain ⟨bb0, off0, hA0, hbl0, c0_0, c0_1, c0_2, c0_3, c0_4, c0_5, c0_6, hcc0, Fk0, hR0⟩ := ex_arg hs (k := 0) (x := x0) rfl
  have Hsz0 := hide (tx_short (hR0 w (Below.refl _ _)) Hva0.out hc0)
  obtain ⟨bb1, off1, hA1, hbl1, c1_0, c1_1, c1_2, c1_3, c1_4, c1_5, c1_6, hcc1, Fk1, hR1⟩ := ex_arg hs (k := 1) (x := x1) rfl
  have Hsz1 := hide (tx_short (hR1 w (Below.refl _ _)) Hva1.out hc1)
  rw [hA0] at hA1
  injection hA1 with hA1
  injection hA1 with hB1 hO1 _
  subst hB1 hO1
  obtain ⟨bb2, off2, hA2, hbl2, c2_0, c2_1, c2_2, c2_3, c2_4, c2_5, c2_6, hcc2, Fk2, hR2⟩ := ex_arg hs (k := 2) (x := x2) rfl
  have Hsz2 := hide (tx_short (hR2 w (Below.refl _ _)) Hva2.out hc2)
  rw [hA0] at hA2
  injection hA2 with hA2
  injection hA2 with hB2 hO2 _
  subst hB2 hO2
  subst hA0
  have HR0 := hide hR0
  have HR1 := hide hR1
  have HR2 := hide hR2
  clear hall hR0 hR1 hR2 hnn hq0 hq1 hq2
  have Hr : Hid (txE (d + 1) (.mk ⟨5, n, p, t, s, m⟩ [x0, x1, x2]) = ⟨#[105, 102, 32]⟩ ++ txE d x0 ++ ⟨#[32, 116, 104, 101, 110, 32]⟩ ++ txE d x1 ++ ⟨#[32, 101, 108, 115, 101, 32]⟩ ++ txE d x2) := hide rfl
  have hs0 := Hsz0.out
  have hs1 := Hsz1.out
  have hs2 := Hsz2.out
  clear hn hcnt
  obtain ⟨C, hz0, hw0⟩ := boxes1 w [.int .i64 5, .int .i64 n, .int .i64 p, .int .i64 t, .string s, .string m, .slice (some ⟨bb0, off0, none⟩) 3 cap] 59
  show Calls _ _ #[.agg #[.int .i64 5, .int .i64 n, .int .i64 p, .int .i64 t, .string s, .string m, .slice (some ⟨bb0, off0, none⟩) 3 cap]] w _
  clear h hv hc hs
  go_enter Tryz.func30, Tryz.ntmps30
  go_wp2_with fail
  generalize w.alloc (Obj.cells #[.int .i64 5, .int .i64 n, .int .i64 p, .int .i64 t, .string s, .string m, .slice (some ⟨bb0, off0, none⟩) 3 cap] 59) = W0 at C hz0 hw0 ⊢
  have hn0 : w.heap.size + 1 ≤ W0.heap.size := by omega
  have Hw : Hid (∀ W : World, Below (w.heap.size + 1) W0 W → Below w.heap.size w W) := hide fun W h => hw0.trans (h.mono (by omega))
  have e0 := cell_rule C (n := w.heap.size + 1) (by omega) 0 (v := .int .i64 5) rfl
  have e1 := cell_rule C (n := w.heap.size + 1) (by omega) 1 (v := .int .i64 n) rfl
  have e2 := cell_rule C (n := w.heap.size + 1) (by omega) 2 (v := .int .i64 p) rfl
  have e3 := cell_rule C (n := w.heap.size + 1) (by omega) 3 (v := .int .i64 t) rfl
  have e4 := cell_rule C (n := w.heap.size + 1) (by omega) 4 (v := .string s) rfl
  have e5 := cell_rule C (n := w.heap.size + 1) (by omega) 5 (v := .string m) rfl
  have e6 := cell_rule C (n := w.heap.size + 1) (by omega) 6 (v := .slice (some ⟨bb0, off0, none⟩) 3 cap) rfl
  have hB0 : Below (w.heap.size + 1) W0 W0 := Below.refl _ _
  have a0_0 : ∀ W : World, Below (w.heap.size + 1) W0 W → W.cell? ⟨bb0, off0, none⟩ = some c0_0 := fun W hW => hcc0 W (Hw.out W hW) 0 _ rfl
  have a0_1 : ∀ W : World, Below (w.heap.size + 1) W0 W → W.cell? ⟨bb0, off0 + 1, none⟩ = some c0_1 := fun W hW => hcc0 W (Hw.out W hW) 1 _ rfl
  have a0_2 : ∀ W : World, Below (w.heap.size + 1) W0 W → W.cell? ⟨bb0, off0 + 2, none⟩ = some c0_2 := fun W hW => hcc0 W (Hw.out W hW) 2 _ rfl
  have a0_3 : ∀ W : World, Below (w.heap.size + 1) W0 W → W.cell? ⟨bb0, off0 + 3, none⟩ = some c0_3 := fun W hW => hcc0 W (Hw.out W hW) 3 _ rfl
  have a0_4 : ∀ W : World, Below (w.heap.size + 1) W0 W → W.cell? ⟨bb0, off0 + 4, none⟩ = some c0_4 := fun W hW => hcc0 W (Hw.out W hW) 4 _ rfl
  have a0_5 : ∀ W : World, Below (w.heap.size + 1) W0 W → W.cell? ⟨bb0, off0 + 5, none⟩ = some c0_5 := fun W hW => hcc0 W (Hw.out W hW) 5 _ rfl
  have a0_6 : ∀ W : World, Below (w.heap.size + 1) W0 W → W.cell? ⟨bb0, off0 + 6, none⟩ = some c0_6 := fun W hW => hcc0 W (Hw.out W hW) 6 _ rfl
  have a1_0 : ∀ W : World, Below (w.heap.size + 1) W0 W → W.cell? ⟨bb0, off0 + 7, none⟩ = some c1_0 := fun W hW => hcc1 W (Hw.out W hW) 0 _ rfl
  have a1_1 : ∀ W : World, Below (w.heap.size + 1) W0 W → W.cell? ⟨bb0, off0 + 8, none⟩ = some c1_1 := fun W hW => hcc1 W (Hw.out W hW) 1 _ rfl
  have a1_2 : ∀ W : World, Below (w.heap.size + 1) W0 W → W.cell? ⟨bb0, off0 + 9, none⟩ = some c1_2 := fun W hW => hcc1 W (Hw.out W hW) 2 _ rfl
  have a1_3 : ∀ W : World, Below (w.heap.size + 1) W0 W → W.cell? ⟨bb0, off0 + 10, none⟩ = some c1_3 := fun W hW => hcc1 W (Hw.out W hW) 3 _ rfl
  have a1_4 : ∀ W : World, Below (w.heap.size + 1) W0 W → W.cell? ⟨bb0, off0 + 11, none⟩ = some c1_4 := fun W hW => hcc1 W (Hw.out W hW) 4 _ rfl
  have a1_5 : ∀ W : World, Below (w.heap.size + 1) W0 W → W.cell? ⟨bb0, off0 + 12, none⟩ = some c1_5 := fun W hW => hcc1 W (Hw.out W hW) 5 _ rfl
  have a1_6 : ∀ W : World, Below (w.heap.size + 1) W0 W → W.cell? ⟨bb0, off0 + 13, none⟩ = some c1_6 := fun W hW => hcc1 W (Hw.out W hW) 6 _ rfl
  have a2_0 : ∀ W : World, Below (w.heap.size + 1) W0 W → W.cell? ⟨bb0, off0 + 14, none⟩ = some c2_0 := fun W hW => hcc2 W (Hw.out W hW) 0 _ rfl
  have a2_1 : ∀ W : World, Below (w.heap.size + 1) W0 W → W.cell? ⟨bb0, off0 + 15, none⟩ = some c2_1 := fun W hW => hcc2 W (Hw.out W hW) 1 _ rfl
  have a2_2 : ∀ W : World, Below (w.heap.size + 1) W0 W → W.cell? ⟨bb0, off0 + 16, none⟩ = some c2_2 := fun W hW => hcc2 W (Hw.out W hW) 2 _ rfl
  have a2_3 : ∀ W : World, Below (w.heap.size + 1) W0 W → W.cell? ⟨bb0, off0 + 17, none⟩ = some c2_3 := fun W hW => hcc2 W (Hw.out W hW) 3 _ rfl
  have a2_4 : ∀ W : World, Below (w.heap.size + 1) W0 W → W.cell? ⟨bb0, off0 + 18, none⟩ = some c2_4 := fun W hW => hcc2 W (Hw.out W hW) 4 _ rfl
  have a2_5 : ∀ W : World, Below (w.heap.size + 1) W0 W → W.cell? ⟨bb0, off0 + 19, none⟩ = some c2_5 := fun W hW => hcc2 W (Hw.out W hW) 5 _ rfl
  have a2_6 : ∀ W : World, Below (w.heap.size + 1) W0 W → W.cell? ⟨bb0, off0 + 20, none⟩ = some c2_6 := fun W hW => hcc2 W (Hw.out W hW) 6 _ rfl
  clear hcc0
  clear hcc1
  clear hcc2
  clear C hz0
  obtain ⟨T0, hT0⟩ : ∃ T, T = txE d x0 := ⟨_, rfl⟩
  obtain ⟨T1, hT1⟩ : ∃ T, T = txE d x1 := ⟨_, rfl⟩
  obtain ⟨T2, hT2⟩ : ∃ T, T = txE d x2 := ⟨_, rfl⟩
  rw [← hT0, ← hT1, ← hT2] at Hr
  rw [← hT0] at hs0
  have HT_0 := hide hT0
  clear hT0
  rw [← hT1] at hs1
  have HT_1 := hide hT1
  clear hT1
  rw [← hT2] at hs2
  have HT_2 := hide hT2
  clear hT2
  have q0 : ¬ 9223372036854775807 < 3 + T0.size := by omega
  have q1 : ¬ 9223372036854775807 < 3 + T0.size + 6 := by omega
  have q2 : ¬ 9223372036854775807 < 3 + T0.size + 6 + T1.size := by omega
  have q3 : ¬ 9223372036854775807 < 3 + T0.size + 6 + T1.size + 6 := by omega
  have q4 : ¬ 9223372036854775807 < 3 + T0.size + 6 + T1.size + 6 + T2.size := by omega
  go_region_held3 (fun W => Below (w.heap.size + 1) W0 W) (first | assumption | exact Below.drew (by assumption))
    (first
      | (go_at_call_has 30 c0_0; refine Calls.mono (hE x0 _ Fk0 _ (HR0.out _ (Hw.out _ (by first | assumption | exact Below.drew (by assumption)))) Hva0.out hc0 (HT.out _ (Hw.out _ (by first | assumption | exact Below.drew (by assumption))))) ?_; rintro en W1 ⟨rfl, hb⟩; have hB1 : Below (w.heap.size + 1) W0 W1 := below_step (by first | assumption | exact Below.drew (by assumption)) hn0 hb; clear hb; rw [← HT_0.out])
      | (go_at_call_has 30 c1_0; refine Calls.mono (hE x1 _ Fk1 _ (HR1.out _ (Hw.out _ (by first | assumption | exact Below.drew (by assumption)))) Hva1.out hc1 (HT.out _ (Hw.out _ (by first | assumption | exact Below.drew (by assumption))))) ?_; rintro en W2 ⟨rfl, hb⟩; have hB2 : Below (w.heap.size + 1) W0 W2 := below_step (by first | assumption | exact Below.drew (by assumption)) hn0 hb; clear hb; rw [← HT_1.out])
      | (go_at_call_has 30 c2_0; refine Calls.mono (hE x2 _ Fk2 _ (HR2.out _ (Hw.out _ (by first | assumption | exact Below.drew (by assumption)))) Hva2.out hc2 (HT.out _ (Hw.out _ (by first | assumption | exact Below.drew (by assumption))))) ?_; rintro en W3 ⟨rfl, hb⟩; have hB3 : Below (w.heap.size + 1) W0 W3 := below_step (by first | assumption | exact Below.drew (by assumption)) hn0 hb; clear hb; rw [← HT_2.out]))
  all_goals
    go_wp2_with fail
    go_ret
    exact ⟨ret_string Hr.out.symm, Hw.out _ hB3⟩
set_option maxRecDepth 100000 in
set_option maxHeartbeats 2000000 in
theorem i_tx8 {d : Nat} (hE : TxI d) (n p t : Int) (s m : ByteArray) (x0 : Ex) (cs : List Value) (F : List Nat) (w : World) (h : ExR (d + 1) w (.mk ⟨8, n, p, t, s, m⟩ [x0]) cs F) (hv : allE okN (d + 1) (.mk ⟨8, n, p, t, s, m⟩ [x0]) = true) (hc : cntE (d + 1) (.mk ⟨8, n, p, t, s, m⟩ [x0]) ≤ 24) (htab : TabIs Tryz.prog w "internal/strconv.uint64pow10" .u64 pow10Tab) :
    Calls Tryz.prog 30 #[.agg cs.toArray] w fun en w' => en = .returned (.string (txE (d + 1) (.mk ⟨8, n, p, t, s, m⟩ [x0]))) ∧ Below w.heap.size w w' := by
  have HT : Hid (∀ W : World, Below w.heap.size w W → TabIs Tryz.prog W "internal/strconv.uint64pow10" .u64 pow10Tab) := hide (tabBelow_of_tabIs htab)
  clear htab
  obtain ⟨A, cap, rfl, hok, hl, hm, hs⟩ := ex_form h
  simp only [Ex.args, Ex.h, List.length_cons, List.length_nil] at hs hl hm hok
  have hv' : (okN (.mk ⟨8, n, p, t, s, m⟩ [x0]) && ([x0] : List Ex).all (allE okN d)) = true := hv
  rw [Bool.and_eq_true] at hv'
  obtain ⟨hn, hall⟩ := hv'
  have hn : nodeB 8 n p t s m 1 = true := hn
  have hcnt : 1 + sumBy (cntE d) [x0] ≤ 24 := hc
  have HF := hide (hs.lt (ExR.good d))
  obtain ⟨n0, n1⟩ := wf_i64 hok.n
  obtain ⟨p0, p1⟩ := wf_i64 hok.pos
  simp only at n0 n1 p0 p1
  unfold maxLen at hm
  have hnn := cntE_nonneg d
  have hq0 := hnn x0
  simp only [sumBy] at hcnt
  simp only [List.all_cons, List.all_nil, Bool.and_true, Bool.and_eq_true] at hall
  have Hva0 : Hid (allE okN d x0 = true) := hide hall
  have hc0 : cntE d x0 ≤ 24 := by omega
  obtain ⟨bb0, off0, hA0, hbl0, c0_0, c0_1, c0_2, c0_3, c0_4, c0_5, c0_6, hcc0, Fk0, hR0⟩ := ex_arg hs (k := 0) (x := x0) rfl
  have Hsz0 := hide (tx_short (hR0 w (Below.refl _ _)) Hva0.out hc0)
  subst hA0
  have HR0 := hide hR0
  clear hall hR0 hnn hq0
  have Hr : Hid (txE (d + 1) (.mk ⟨8, n, p, t, s, m⟩ [x0]) = s ++ ⟨#[46]⟩ ++ m ++ ⟨#[32, 111, 102, 32]⟩ ++ atL (levH x0.h) 4 (txE d x0)) := hide rfl
  have hs0 := Nat.le_trans (atL_size (levH x0.h) 4 (txE d x0)) (Nat.add_le_add_right Hsz0.out 2)
  have hms : m.size ≤ 8 := by unfold nodeB at hn; simp at hn; exact validN_size hn.2
  have hss : s.size ≤ 8 := by unfold nodeB at hn; simp at hn; exact validN_size hn.1.2
  clear hn hcnt
  obtain ⟨C, hz0, hw0⟩ := boxes1 w [.int .i64 8, .int .i64 n, .int .i64 p, .int .i64 t, .string s, .string m, .slice (some ⟨bb0, off0, none⟩) 1 cap] 59
  show Calls _ _ #[.agg #[.int .i64 8, .int .i64 n, .int .i64 p, .int .i64 t, .string s, .string m, .slice (some ⟨bb0, off0, none⟩) 1 cap]] w _
  clear h hv hc hs
  go_enter Tryz.func30, Tryz.ntmps30
  go_wp2_with fail
  generalize w.alloc (Obj.cells #[.int .i64 8, .int .i64 n, .int .i64 p, .int .i64 t, .string s, .string m, .slice (some ⟨bb0, off0, none⟩) 1 cap] 59) = W0 at C hz0 hw0 ⊢
  have hn0 : w.heap.size + 1 ≤ W0.heap.size := by omega
  have Hw : Hid (∀ W : World, Below (w.heap.size + 1) W0 W → Below w.heap.size w W) := hide fun W h => hw0.trans (h.mono (by omega))
  have e0 := cell_rule C (n := w.heap.size + 1) (by omega) 0 (v := .int .i64 8) rfl
  have e1 := cell_rule C (n := w.heap.size + 1) (by omega) 1 (v := .int .i64 n) rfl
  have e2 := cell_rule C (n := w.heap.size + 1) (by omega) 2 (v := .int .i64 p) rfl
  have e3 := cell_rule C (n := w.heap.size + 1) (by omega) 3 (v := .int .i64 t) rfl
  have e4 := cell_rule C (n := w.heap.size + 1) (by omega) 4 (v := .string s) rfl
  have e5 := cell_rule C (n := w.heap.size + 1) (by omega) 5 (v := .string m) rfl
  have e6 := cell_rule C (n := w.heap.size + 1) (by omega) 6 (v := .slice (some ⟨bb0, off0, none⟩) 1 cap) rfl
  have hB0 : Below (w.heap.size + 1) W0 W0 := Below.refl _ _
  have a0_0 : ∀ W : World, Below (w.heap.size + 1) W0 W → W.cell? ⟨bb0, off0, none⟩ = some c0_0 := fun W hW => hcc0 W (Hw.out W hW) 0 _ rfl
  have a0_1 : ∀ W : World, Below (w.heap.size + 1) W0 W → W.cell? ⟨bb0, off0 + 1, none⟩ = some c0_1 := fun W hW => hcc0 W (Hw.out W hW) 1 _ rfl
  have a0_2 : ∀ W : World, Below (w.heap.size + 1) W0 W → W.cell? ⟨bb0, off0 + 2, none⟩ = some c0_2 := fun W hW => hcc0 W (Hw.out W hW) 2 _ rfl
  have a0_3 : ∀ W : World, Below (w.heap.size + 1) W0 W → W.cell? ⟨bb0, off0 + 3, none⟩ = some c0_3 := fun W hW => hcc0 W (Hw.out W hW) 3 _ rfl
  have a0_4 : ∀ W : World, Below (w.heap.size + 1) W0 W → W.cell? ⟨bb0, off0 + 4, none⟩ = some c0_4 := fun W hW => hcc0 W (Hw.out W hW) 4 _ rfl
  have a0_5 : ∀ W : World, Below (w.heap.size + 1) W0 W → W.cell? ⟨bb0, off0 + 5, none⟩ = some c0_5 := fun W hW => hcc0 W (Hw.out W hW) 5 _ rfl
  have a0_6 : ∀ W : World, Below (w.heap.size + 1) W0 W → W.cell? ⟨bb0, off0 + 6, none⟩ = some c0_6 := fun W hW => hcc0 W (Hw.out W hW) 6 _ rfl
  clear hcc0
  clear C hz0
  obtain ⟨T, hT⟩ : ∃ T, T = atL (levH x0.h) 4 (txE d x0) := ⟨_, rfl⟩
  rw [← hT] at Hr hs0
  have HT_0 := hide hT
  clear hT
  have q0 : ¬ 9223372036854775807 < s.size + 1 := by omega
  have q1 : ¬ 9223372036854775807 < s.size + 1 + m.size := by omega
  have q2 : ¬ 9223372036854775807 < s.size + 1 + m.size + 4 := by omega
  have q3 : ¬ 9223372036854775807 < s.size + 1 + m.size + 4 + T.size := by omega
  go_region_held3 (fun W => Below (w.heap.size + 1) W0 W) (first | assumption | exact Below.drew (by assumption))
    (first | (go_at_call_has 60 c0_0; refine Calls.mono (i_atE hE x0 _ Fk0 _ (HR0.out _ (Hw.out _ (by first | assumption | exact Below.drew (by assumption)))) Hva0.out hc0 4 (HT.out _ (Hw.out _ (by first | assumption | exact Below.drew (by assumption))))) ?_; rintro en W1 ⟨rfl, hb⟩; have hB1 : Below (w.heap.size + 1) W0 W1 := below_step (by first | assumption | exact Below.drew (by assumption)) hn0 hb; clear hb; rw [← HT_0.out]))
  all_goals
    go_wp2_with fail
    go_ret
    exact ⟨ret_string Hr.out.symm, Hw.out _ hB1⟩
end Go.Proofs.YtjddmboaaebbiaaGreatDoor

/- A struct's box that is laid anywhere among a region's calls: what is known of it. Plain. -/
namespace Go.Proofs.YtjddmboaaebbiaaGreatDoor
set_option linter.unusedSimpArgs false
set_option linter.unusedVariables false
set_option maxRecDepth 100000
open Go.RowKit
theorem xbox {X W : World} {z : Array Value} {T : TypeId} (hb : Below (X.alloc (.cells z T)).heap.size (X.alloc (.cells z T)) W) : W.heap[X.heap.size]? = some (.cells z T (0, 0)) ∧ X.heap.size < W.heap.size :=
  ⟨blk_below (heap_alloc_new X _) hb (by simp), by have := hb.size; simp at this; omega⟩
theorem xboxd {X W : World} {z : Array Value} {T : TypeId} (hb : Below (X.alloc (.cells z T)).drew.heap.size (X.alloc (.cells z T)).drew W) : W.heap[X.heap.size]? = some (.cells z T (0, 0)) ∧ X.heap.size < W.heap.size :=
  xbox (X := X) (((Below.refl _ (X.alloc (.cells z T))).drew).trans hb)
theorem xcarry {W W' : World} {b : Nat} {z : Array Value} {T : TypeId} (h : W.heap[b]? = some (.cells z T (0, 0)) ∧ b < W.heap.size) (hb : Below W.heap.size W W') : W'.heap[b]? = some (.cells z T (0, 0)) ∧ b < W'.heap.size :=
  ⟨blk_below h.1 hb h.2, Nat.lt_of_lt_of_le h.2 hb.size⟩
theorem xdrew_heap (W : World) : W.drew.heap = W.heap := rfl
theorem below_putc {B g : Nat} {W0 : World} : ∀ (vs : List Value) (o : Nat) (w1 : World), Below B W0 w1 → B ≤ g → Below B W0 (putCells w1 g o vs)
  | [], _, _, h, _ => h
  | v :: r, o, w1, h, hg => below_putc r (o + 1) _ (Below.setCell (p := ⟨g, o, none⟩) h hg v) hg
theorem below_set7 {B g : Nat} {W0 w1 : World} {u0 u1 u2 u3 u4 u5 u6 : Value} (h : Below B W0 w1) (hg : B ≤ g) : Below B W0 (((((((w1.setCell ⟨g, 0, none⟩ u0).setCell ⟨g, 1, none⟩ u1).setCell ⟨g, 2, none⟩ u2).setCell ⟨g, 3, none⟩ u3).setCell ⟨g, 4, none⟩ u4).setCell ⟨g, 5, none⟩ u5).setCell ⟨g, 6, none⟩ u6) :=
  Below.setCell (p := ⟨g, 6, none⟩) (Below.setCell (p := ⟨g, 5, none⟩) (Below.setCell (p := ⟨g, 4, none⟩) (Below.setCell (p := ⟨g, 3, none⟩) (Below.setCell (p := ⟨g, 2, none⟩) (Below.setCell (p := ⟨g, 1, none⟩) (Below.setCell (p := ⟨g, 0, none⟩) h hg u0) hg u1) hg u2) hg u3) hg u4) hg u5) hg u6
theorem put_set7 {b : Nat} {w : World} {cs : Array Value} {t : TypeId} (u0 u1 u2 u3 u4 u5 u6 : Value) (h : w.heap[b]? = some (.cells cs t (0, 0))) (hz : 7 ≤ cs.size) : Put w b 0 [u0, u1, u2, u3, u4, u5, u6] cs t (((((((w.setCell ⟨b, 0, none⟩ u0).setCell ⟨b, 1, none⟩ u1).setCell ⟨b, 2, none⟩ u2).setCell ⟨b, 3, none⟩ u3).setCell ⟨b, 4, none⟩ u4).setCell ⟨b, 5, none⟩ u5).setCell ⟨b, 6, none⟩ u6) :=
  put_spec [u0, u1, u2, u3, u4, u5, u6] 0 w cs h (by simpa using hz)
theorem store1 (P : Program) {b i : Nat} {w : World} {cs : Array Value} {t : TypeId} (u : Value) (h : w.heap[b]? = some (.cells cs t (0, 0))) (hi : i < cs.size) (hu : u.oneCell' = true) :
    (∃ cs' : Array Value, cs'.size = cs.size ∧ (w.setCell ⟨b, i, none⟩ u).heap[b]? = some (.cells cs' t (0, 0))) ∧ ∀ m, (store ⟨b, i, none⟩ u m).run P w = .ok () (w.setCell ⟨b, i, none⟩ u) := by
  refine ⟨?_, fun m => ?_⟩
  · have h1 := put_blk [u] i w cs h
    exact ⟨setMany cs i [u], by simp [setMany], h1⟩
  · rw [run_store P w _ u m hu]
    have hc : w.cell? ⟨b, i, none⟩ = some cs[i] := by simp [World.cell?, h, hi]
    have hf : w.frozen? ⟨b, i, none⟩ = false := frozen_of_row w b i cs t h
    rw [hc]
    simp [hf]
theorem store7 (P : Program) {b : Nat} {w : World} {cs : Array Value} {t : TypeId} (u0 u1 u2 u3 u4 u5 u6 : Value) (h : w.heap[b]? = some (.cells cs t (0, 0))) (hz : 7 ≤ cs.size) (hu : ∀ u ∈ [u0, u1, u2, u3, u4, u5, u6], u.oneCell' = true) :
    ∃ w1 w2 w3 w4 w5 w6 w7 : World, (∀ m, (store ⟨b, 0, none⟩ u0 m).run P w = .ok () w1) ∧ (∀ m, (store ⟨b, 1, none⟩ u1 m).run P w1 = .ok () w2) ∧ (∀ m, (store ⟨b, 2, none⟩ u2 m).run P w2 = .ok () w3) ∧ (∀ m, (store ⟨b, 3, none⟩ u3 m).run P w3 = .ok () w4) ∧ (∀ m, (store ⟨b, 4, none⟩ u4 m).run P w4 = .ok () w5) ∧ (∀ m, (store ⟨b, 5, none⟩ u5 m).run P w5 = .ok () w6) ∧ (∀ m, (store ⟨b, 6, none⟩ u6 m).run P w6 = .ok () w7) ∧ Put w b 0 [u0, u1, u2, u3, u4, u5, u6] cs t w7 := by
  obtain ⟨⟨c0, z0, g0⟩, s0⟩ := store1 P (i := 0) u0 h (by omega) (hu u0 (by simp))
  obtain ⟨⟨c1, z1, g1⟩, s1⟩ := store1 P (i := 1) u1 g0 (by omega) (hu u1 (by simp))
  obtain ⟨⟨c2, z2, g2⟩, s2⟩ := store1 P (i := 2) u2 g1 (by omega) (hu u2 (by simp))
  obtain ⟨⟨c3, z3, g3⟩, s3⟩ := store1 P (i := 3) u3 g2 (by omega) (hu u3 (by simp))
  obtain ⟨⟨c4, z4, g4⟩, s4⟩ := store1 P (i := 4) u4 g3 (by omega) (hu u4 (by simp))
  obtain ⟨⟨c5, z5, g5⟩, s5⟩ := store1 P (i := 5) u5 g4 (by omega) (hu u5 (by simp))
  obtain ⟨⟨c6, z6, g6⟩, s6⟩ := store1 P (i := 6) u6 g5 (by omega) (hu u6 (by simp))
  exact ⟨_, _, _, _, _, _, _, s0, s1, s2, s3, s4, s5, s6, put_set7 u0 u1 u2 u3 u4 u5 u6 h hz⟩
theorem two_new0 (W : World) (Z : Array Value) (T : TypeId) : (((W.alloc (.cells Z T)).alloc (.cells Z T)).drew).heap[W.heap.size]? = some (.cells Z T (0, 0)) :=
  blk_below (heap_alloc_new W (.cells Z T)) (((Below.refl _ (W.alloc (.cells Z T))).alloc (Nat.le_refl _) (.cells Z T)).drew) (by simp)
theorem two_new1 (W : World) (Z : Array Value) (T : TypeId) : (((W.alloc (.cells Z T)).alloc (.cells Z T)).drew).heap[W.heap.size + 1]? = some (.cells Z T (0, 0)) := by
  have h := heap_alloc_new (W.alloc (.cells Z T)) (.cells Z T)
  rw [World.size_alloc] at h
  exact h
theorem store77 (P : Program) {g h : Nat} {w : World} {cs cs' : Array Value} {t t' : TypeId} (u0 u1 u2 u3 u4 u5 u6 v0 v1 v2 v3 v4 v5 v6 : Value) (h0 : w.heap[g]? = some (.cells cs t (0, 0))) (h1 : w.heap[h]? = some (.cells cs' t' (0, 0)))
    (hz : 7 ≤ cs.size) (hz' : 7 ≤ cs'.size) (hne : g ≠ h) (hu : ∀ u ∈ [u0, u1, u2, u3, u4, u5, u6], u.oneCell' = true) (hv : ∀ u ∈ [v0, v1, v2, v3, v4, v5, v6], u.oneCell' = true) :
    ∃ w1 w2 w3 w4 w5 w6 w7 w8 w9 w10 w11 w12 w13 w14 : World, (∀ m, (store ⟨g, 0, none⟩ u0 m).run P w = .ok () w1) ∧ (∀ m, (store ⟨g, 1, none⟩ u1 m).run P w1 = .ok () w2) ∧ (∀ m, (store ⟨g, 2, none⟩ u2 m).run P w2 = .ok () w3) ∧ (∀ m, (store ⟨g, 3, none⟩ u3 m).run P w3 = .ok () w4) ∧ (∀ m, (store ⟨g, 4, none⟩ u4 m).run P w4 = .ok () w5) ∧ (∀ m, (store ⟨g, 5, none⟩ u5 m).run P w5 = .ok () w6) ∧ (∀ m, (store ⟨g, 6, none⟩ u6 m).run P w6 = .ok () w7) ∧ (∀ m, (store ⟨h, 0, none⟩ v0 m).run P w7 = .ok () w8) ∧ (∀ m, (store ⟨h, 1, none⟩ v1 m).run P w8 = .ok () w9) ∧ (∀ m, (store ⟨h, 2, none⟩ v2 m).run P w9 = .ok () w10) ∧ (∀ m, (store ⟨h, 3, none⟩ v3 m).run P w10 = .ok () w11) ∧ (∀ m, (store ⟨h, 4, none⟩ v4 m).run P w11 = .ok () w12) ∧ (∀ m, (store ⟨h, 5, none⟩ v5 m).run P w12 = .ok () w13) ∧ (∀ m, (store ⟨h, 6, none⟩ v6 m).run P w13 = .ok () w14) ∧
      (∀ B, B ≤ g → B ≤ h → Below B w w7) ∧ CellsAt w14 g 0 [u0, u1, u2, u3, u4, u5, u6] ∧ CellsAt w14 h 0 [v0, v1, v2, v3, v4, v5, v6] ∧ w14.heap.size = w.heap.size ∧ (∀ B, B ≤ g → B ≤ h → Below B w w14) := by
  obtain ⟨w1, w2, w3, w4, w5, w6, w7, s0, s1, s2, s3, s4, s5, s6, hP⟩ := store7 P u0 u1 u2 u3 u4 u5 u6 h0 hz hu
  have h2 : w7.heap[h]? = some (.cells cs' t' (0, 0)) := (hP.far h (Ne.symm hne)).trans h1
  obtain ⟨w8, w9, w10, w11, w12, w13, w14, s7, s8, s9, s10, s11, s12, s13, hQ⟩ := store7 P v0 v1 v2 v3 v4 v5 v6 h2 hz' hv
  have hc := hP.cellsAt
  refine ⟨w1, w2, w3, w4, w5, w6, w7, w8, w9, w10, w11, w12, w13, w14, s0, s1, s2, s3, s4, s5, s6, s7, s8, s9, s10, s11, s12, s13, fun B b1 b2 => hP.below b1, fun j u hj => ?_, hQ.cellsAt, hQ.size.trans hP.size, fun B b1 b2 => (hP.below b1).trans (hQ.below b2)⟩
  have hk : w14.heap[g]? = w7.heap[g]? := hQ.far g hne
  have h3 := hc j u hj
  simp only [World.cell?] at h3 ⊢
  rw [hk]
  exact h3
end Go.Proofs.YtjddmboaaebbiaaGreatDoor
