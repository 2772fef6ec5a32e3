/- Several texts of one proof in one file: Marks: the text that stands for a number; texts of a slice overwritten by marks, and held against them. Occurrences overwritten by marks, and held against them. Expressions overwritten by marks. Attributes and symbols overwritten by marks, and held against them. Equations and contributions overwritten by marks, and held against them. Rules and grammars overwritten by marks, and held against them. What the walks of laws with marks share: facts behind a marking call; how many marks a thing takes, against its size. Plain: no program. Symbols, rules and equations sought in a grammar: the plain functions; sizes of what is found. Plain: no program. One element appended to a row that the call owns. Plain: no program. Conditions: each theorem names its own. -/
import Derived.Test.YthlhhnnlbpecnaaGreatGcsac
import Derived.Laws.IdiomStrings
import Derived.Test.YthlhhnnlbpecnaaGreatGcsah
import Derived.Test.YthlhhnnlbpecnaaGreatGcsae
import Derived.Test.YthlhhnnlbpecnaaGreatGcsaf
import Derived.Test.YthlhhnnlbpecnaaGreatGcsag
import Derived.Test.YthlhhnnlbpecnaaGreatGcsab
import Derived.OwnWalk

/- Marks: the text that stands for a number; texts of a slice overwritten by marks, and held against them. Conditions: numbers from 1 to 2^40. -/
namespace Go.Proofs.YthlhhnnlbpecnaaGreat
set_option linter.unusedSimpArgs false
set_option linter.unusedVariables false
set_option maxRecDepth 100000
open Go.RowKit

/-- The decimal digits of k ahead of acc. -/
def dgsF : Nat → Nat → List UInt8 → List UInt8
  | 0, _, acc => acc
  | f + 1, k, acc => if k = 0 then acc else dgsF f (k / 10) ((48 + UInt8.ofNat (k % 10)) :: acc)
def mkT (k : Nat) : ByteArray := ⟨(109 :: dgsF k k []).toArray⟩

theorem dgs_step {f kk : Nat} {acc : List UInt8} (hk : 0 < kk) (hf : kk ≤ f) : dgsF f kk acc = dgsF (f - 1) (kk / 10) ((48 + UInt8.ofNat (kk % 10)) :: acc) := by
  match f, hf with
  | 0, hf => omega
  | f + 1, hf => simp only [dgsF]; rw [if_neg (by omega)]; rfl
theorem dgs_end {f : Nat} {acc : List UInt8} : dgsF f 0 acc = acc := by cases f <;> simp [dgsF]
/-! ### Slices of texts, marked -/
def marks (k n : Nat) : List ByteArray := (List.range n).map fun i => mkT (k + i)
theorem marks_len (k n : Nat) : (marks k n).length = n := by simp [marks]
theorem marks_succ (k n : Nat) : marks k (n + 1) = marks k n ++ [mkT (k + n)] := by simp [marks, List.range_succ]
theorem marks_at {k n j : Nat} (h : j < n) : (marks k n)[j]? = some (mkT (k + j)) := by simp [marks, h]
theorem marks_set {k j n : Nat} {xs : List ByteArray} (hl : xs.length = n) (hj : j < n) : ((marks k j ++ xs.drop j).map Value.string).set j (.string (mkT (k + j))) = (marks k (j + 1) ++ xs.drop (j + 1)).map Value.string := by
  have hd : xs.drop j = xs[j]'(by omega) :: xs.drop (j + 1) := List.drop_eq_getElem_cons (by omega)
  have hm : ((marks k j).map Value.string).length = j := by simp [marks_len]
  rw [hd, marks_succ]
  simp only [List.map_append, List.map_cons, List.map_nil]
  generalize (marks k j).map Value.string = m at hm
  clear hd
  subst hm
  simp
/-- All but the blocks F stands as it stood; new blocks may have come. -/
structure Apart (F : List Nat) (w w' : World) : Prop where
  os : w'.os = w.os
  tape : w'.tape = w.tape
  output : w'.output = w.output
  size : w.heap.size ≤ w'.heap.size
  block : ∀ b, b < w.heap.size → b ∉ F → w'.heap[b]? = w.heap[b]?
theorem Apart.refl (F : List Nat) (w : World) : Apart F w w := ⟨rfl, rfl, rfl, Nat.le_refl _, fun _ _ _ => rfl⟩
theorem Apart.trans {F : List Nat} {a b c : World} (h : Apart F a b) (g : Apart F b c) : Apart F a c :=
  ⟨g.os.trans h.os, g.tape.trans h.tape, g.output.trans h.output, Nat.le_trans h.size g.size, fun k hk hF => (g.block k (Nat.lt_of_lt_of_le hk h.size) hF).trans (h.block k hk hF)⟩
theorem Apart.of_below {F : List Nat} {w w' : World} (h : Below w.heap.size w w') : Apart F w w' := ⟨h.os, h.tape, h.output, h.size, fun k hk _ => h.block k hk⟩
theorem Apart.more {F G : List Nat} {w w' : World} (h : Apart F w w') (hFG : ∀ b ∈ F, b ∈ G) : Apart G w w' := ⟨h.os, h.tape, h.output, h.size, fun k hk hG => h.block k hk (fun hF => hG (hFG k hF))⟩
theorem Apart.below {F : List Nat} {w w' : World} {B : Nat} (h : Apart F w w') (hF : ∀ b ∈ F, B ≤ b) (hB : B ≤ w.heap.size) : Below B w w' :=
  ⟨h.os, h.tape, h.output, h.size, fun k hk => h.block k (by omega) (fun hm => by have := hF k hm; omega)⟩
theorem Apart.setCell {F : List Nat} {a w : World} (h : Apart F a w) {p : Addr} (hp : p.block ∈ F) (u : Value) : Apart F a (w.setCell p u) :=
  h.trans ⟨rfl, rfl, rfl, by simp [World.setCell], fun k _ hF => heap_setCell_other _ _ _ _ (fun e => hF (e ▸ hp))⟩
theorem SlR.apart {α : Type} {n : Nat} {R : CR α} (hR : Good n R) {w w' : World} {xs : List α} {v : Value} {F G : List Nat} (h : SlR n R w xs v G) (ha : Apart F w w') (hd : ∀ b ∈ G, b ∉ F) : SlR n R w' xs v G :=
  h.frame hR (fun k hk => ha.block k (h.lt hR k hk) (hd k hk)) ha.size
theorem Good.apart {α : Type} {n : Nat} {R : CR α} (hR : Good n R) {w w' : World} {x : α} {cs : List Value} {F G : List Nat} (h : R w x cs G) (ha : Apart F w w') (hd : ∀ b ∈ G, b ∉ F) : R w' x cs G :=
  hR.frame h (fun k hk => ha.block k (hR.lt h k hk) (hd k hk)) ha.size
theorem Fresh.apart {C : Nat} {w w' : World} {F G : List Nat} (h : Fresh C w G) (ha : Apart F w w') (hd : ∀ b ∈ G, b ∉ F) : Fresh C w' G := h.keep fun b hb => ha.block b (h.lt b hb) (hd b hb)
theorem setCell_far {w : World} {p : Addr} {u : Value} {k : Nat} (h : k ≠ p.block) : (w.setCell p u).heap[k]? = w.heap[k]? := heap_setCell_other _ _ _ _ h
theorem cellsAt_set {w : World} {b off j : Nat} {cs : Array Value} {t : TypeId} {us : List Value} {u : Value} (hb : w.heap[b]? = some (.cells cs t (0, 0))) (hj : off + j < cs.size) (h : CellsAt w b off us) :
    CellsAt (w.setCell ⟨b, off + j, none⟩ u) b off (us.set j u) := fun i v hv => by
  have h1 := heap_setCell_same w b (off + j) cs t u hb
  rw [cell_of_row _ _ _ _ _ _ h1, Array.getElem?_setIfInBounds]
  rw [List.getElem?_set] at hv
  by_cases hij : j = i
  · subst hij
    rw [if_pos rfl, if_pos hj]
    rw [if_pos rfl] at hv
    split at hv
    · exact hv
    · cases hv
  · rw [if_neg (by omega)]
    rw [if_neg hij] at hv
    have := h i v hv
    rwa [cell_of_row _ _ _ _ _ _ hb] at this
theorem mkT_small {k : Nat} (hk : k ≤ 1099511627776) : (mkT k).size ≤ maxLen := by
  have h : ∀ (f kk : Nat) (acc : List UInt8), (dgsF f kk acc).length ≤ acc.length + kk := by
    intro f
    induction f with
    | zero => intro kk acc; simp [dgsF]
    | succ f ih =>
      intro kk acc
      simp only [dgsF]
      split
      · omega
      · rename_i hne
        have := ih (kk / 10) ((48 + UInt8.ofNat (kk % 10)) :: acc)
        simp only [List.length_cons] at this
        omega
  have := h k k []
  unfold mkT maxLen
  simp only [ByteArray.size, List.size_toArray, List.length_cons]
  simp at this
  omega

end Go.Proofs.YthlhhnnlbpecnaaGreat

/- Occurrences overwritten by marks, and held against them. Conditions: numbers from 1 to 2^40. -/
namespace Go.Proofs.YthlhhnnlbpecnaaGreat
set_option linter.unusedSimpArgs false
set_option linter.unusedVariables false
set_option maxRecDepth 100000
open Go.RowKit Go.WideShapes
set_option linter.unusedVariables false

/-- A list written anew, each element by the numbers from its own on. -/
def mkL {α : Type} (mk : Nat → α → α) (ct : α → Nat) : Nat → List α → List α
  | _, [] => []
  | k, x :: r => mk k x :: mkL mk ct (k + ct x) r
def ctL {α : Type} (ct : α → Nat) : List α → Nat
  | [] => 0
  | x :: r => ct x + ctL ct r
theorem mkL_len {α : Type} {mk : Nat → α → α} {ct : α → Nat} : ∀ (xs : List α) (k : Nat), (mkL mk ct k xs).length = xs.length
  | [], _ => rfl
  | x :: r, k => by simp only [mkL, List.length_cons, mkL_len r]
theorem mkL_append {α : Type} {mk : Nat → α → α} {ct : α → Nat} : ∀ (xs ys : List α) (k : Nat), mkL mk ct k (xs ++ ys) = mkL mk ct k xs ++ mkL mk ct (k + ctL ct xs) ys
  | [], _, _ => rfl
  | x :: r, ys, k => by simp only [List.cons_append, mkL, ctL, mkL_append r, Nat.add_assoc]
theorem ctL_append {α : Type} {ct : α → Nat} : ∀ (xs ys : List α), ctL ct (xs ++ ys) = ctL ct xs + ctL ct ys
  | [], ys => by simp [ctL]
  | x :: r, ys => by simp only [List.cons_append, ctL, ctL_append r, Nat.add_assoc]
theorem ctL_take {α : Type} {ct : α → Nat} {xs : List α} {j : Nat} {x : α} (h : xs[j]? = some x) : ctL ct (xs.take (j + 1)) = ctL ct (xs.take j) + ct x := by rw [take_snoc h, ctL_append]; simp [ctL]
theorem mkL_take {α : Type} {mk : Nat → α → α} {ct : α → Nat} {xs : List α} {k j : Nat} {x : α} (h : xs[j]? = some x) : mkL mk ct k (xs.take (j + 1)) = mkL mk ct k (xs.take j) ++ [mk (k + ctL ct (xs.take j)) x] := by rw [take_snoc h, mkL_append]; rfl
theorem ctL_take_le {α : Type} {ct : α → Nat} (xs : List α) (j : Nat) : ctL ct (xs.take j) ≤ ctL ct xs := by
  have := ctL_append (ct := ct) (xs.take j) (xs.drop j)
  rw [List.take_append_drop] at this
  omega
/-- The list half written. -/
theorem half_at {α : Type} {mk : Nat → α → α} {ct : α → Nat} {xs : List α} {k j : Nat} {x : α} (h : xs[j]? = some x) : (mkL mk ct k (xs.take j) ++ xs.drop j)[j]? = some x := by
  have hj := (List.getElem?_eq_some_iff.1 h).1
  have hl : (mkL mk ct k (xs.take j)).length = j := by rw [mkL_len]; simp; omega
  rw [List.getElem?_append_right (by omega), hl, Nat.sub_self, List.getElem?_drop, Nat.add_zero, h]
theorem half_next {α : Type} {mk : Nat → α → α} {ct : α → Nat} {xs : List α} {k j : Nat} {x : α} (h : xs[j]? = some x) :
    (mkL mk ct k (xs.take j) ++ xs.drop j).take j ++ mk (k + ctL ct (xs.take j)) x :: (mkL mk ct k (xs.take j) ++ xs.drop j).drop (j + 1) = mkL mk ct k (xs.take (j + 1)) ++ xs.drop (j + 1) := by
  have hj := (List.getElem?_eq_some_iff.1 h).1
  have hl : (mkL mk ct k (xs.take j)).length = j := by rw [mkL_len]; simp; omega
  rw [mkL_take h]
  generalize mkL mk ct k (xs.take j) = m at hl
  subst hl
  simp
def mk_Occ (k : Nat) (_x : Occ) : Occ := ⟨(k : Int), mkT (k + 1)⟩
def ct_Occ (_x : Occ) : Nat := 2
theorem PutG.apart {w W W' : World} {b o : Nat} {X G : List Nat} {vs : List Value} (h : PutG w b o X vs W) (ha : Apart G W W') (hb : b ∉ G) (hG : ∀ k ∈ G, k ∈ X) : PutG w b o X vs W' := by
  obtain ⟨⟨bs, bs', t, h1, h2, h3, h4, h5⟩, hf, hs, e1, e2, e3⟩ := h
  exact ⟨⟨bs, bs', t, h1, (ha.block b (blk_lt h2) hb).trans h2, h3, h4, h5⟩, fun k hk hkb hX => (ha.block k (by omega) (fun hm => hX (hG k hm))).trans (hf k hk hkb hX), Nat.le_trans hs ha.size, ha.os.trans e1, ha.tape.trans e2, ha.output.trans e3⟩
theorem half_len {α : Type} {mk : Nat → α → α} {ct : α → Nat} {xs : List α} {k j : Nat} (h : j ≤ xs.length) : (mkL mk ct k (xs.take j) ++ xs.drop j).length = xs.length := by
  rw [List.length_append, mkL_len, List.length_take, List.length_drop]
  omega
theorem OccR.mk (D : Nat) (W : World) (k : Nat) (x : Occ) (hk : k + 1 ≤ 1099511627776) : OccR D W (mk_Occ k x) [.int .i64 (k : Int), .string (mkT (k + 1))] [] :=
  ⟨rfl, ⟨by simp [mk_Occ, Lit.wf, IntKind.min, IntKind.max, IntKind.signed, IntKind.bits]; omega, mkT_small hk⟩, rfl, rfl, rfl⟩
theorem mkL_at {α : Type} {mk : Nat → α → α} {ct : α → Nat} {xs : List α} {k j : Nat} {x : α} (h : xs[j]? = some x) : (mkL mk ct k xs)[j]? = some (mk (k + ctL ct (xs.take j)) x) := by
  have hj := (List.getElem?_eq_some_iff.1 h).1
  have h1 := mkL_append (mk := mk) (ct := ct) (xs.take j) (xs.drop j) k
  rw [List.take_append_drop] at h1
  have hl : (mkL mk ct k (xs.take j)).length = j := by rw [mkL_len]; simp; omega
  have hd : xs.drop j = x :: xs.drop (j + 1) := by
    rw [List.drop_eq_getElem_cons hj]
    rw [List.getElem?_eq_getElem hj] at h
    rw [Option.some.inj h]
  rw [h1, List.getElem?_append_right (by omega), hl, Nat.sub_self, hd]
  rfl
end Go.Proofs.YthlhhnnlbpecnaaGreat

/- Expressions overwritten by marks. Conditions: numbers from 1 to 2^40. -/
namespace Go.Proofs.YthlhhnnlbpecnaaGreat
set_option linter.unusedSimpArgs false
set_option linter.unusedVariables false
set_option maxRecDepth 100000
open Go.RowKit Go.WideShapes
set_option linter.unusedVariables false

def ctE0 : Nat → Ex → Nat
  | 0, _ => 0
  | d + 1, e => 6 + ctL (ctE0 d) e.args
def mkE : Nat → Nat → Ex → Ex
  | 0, _, e => e
  | d + 1, k, e => .mk ⟨(k : Int), (k : Int) + 1, (k : Int) + 1 + 1, (k : Int) + 1 + 1 + 1, mkT (k + 1 + 1 + 1 + 1), mkT (k + 1 + 1 + 1 + 1 + 1)⟩ (mkL (mkE d) (ctE0 d) (k + 1 + 1 + 1 + 1 + 1 + 1) e.args)
theorem wf_int {z : Int} (h0 : 0 ≤ z) (h1 : z ≤ 1099511627776) : (Lit.int .i64 z).wf = true := by simp [Lit.wf, IntKind.min, IntKind.max, IntKind.signed, IntKind.bits]; omega
theorem mkE_ok {d k : Nat} {x : Ex} (hk : k + 6 ≤ 1099511627776) : (mkE (d + 1) k x).h.ok :=
  ⟨wf_int (z := (k : Int)) (by omega) (by omega), wf_int (z := (k : Int) + 1) (by omega) (by omega), wf_int (z := (k : Int) + 1 + 1) (by omega) (by omega), wf_int (z := (k : Int) + 1 + 1 + 1) (by omega) (by omega), mkT_small (k := k + 1 + 1 + 1 + 1) (by omega), mkT_small (k := k + 1 + 1 + 1 + 1 + 1) (by omega)⟩
theorem Fresh.mid {C b : Nat} {w : World} {F1 Fk F2 : List Nat} (h : Fresh C w (b :: (F1 ++ (Fk ++ F2)))) : Fresh C w Fk := by
  refine ⟨?_, fun k hk => h.from_ k (by simp [hk]), fun k hk => h.cells k (by simp [hk])⟩
  have h1 := (List.nodup_cons.1 h.nodup).2
  have h2 := (List.nodup_append.1 h1).2.1
  exact (List.nodup_append.1 h2).1
theorem PutG.weak {w W : World} {b o : Nat} {X : List Nat} {vs : List Value} (h : PutG w b o [] vs W) : PutG w b o X vs W :=
  ⟨h.blk, fun k hk hb _ => h.far k hk hb (by simp), h.size, h.os, h.tape, h.output⟩
theorem nodup_mid {b : Nat} {F1 Fk F2 : List Nat} (h : (b :: (F1 ++ (Fk ++ F2))).Nodup) : (∀ k ∈ F1, k ≠ b ∧ k ∉ Fk) ∧ (∀ k ∈ F2, k ≠ b ∧ k ∉ Fk) := by
  obtain ⟨hb, h1⟩ := List.nodup_cons.1 h
  obtain ⟨_, h2, h3⟩ := List.nodup_append.1 h1
  obtain ⟨_, _, h4⟩ := List.nodup_append.1 h2
  exact ⟨fun k hk => ⟨fun e => hb (by simp [← e, hk]), fun hm => h3 k hk k (by simp [hm]) rfl⟩, fun k hk => ⟨fun e => hb (by simp [← e, hk]), fun hm => h4 k hm k hk rfl⟩⟩
theorem wf_nat {k : Nat} (hk : k ≤ 1099511627776) : (Lit.int .i64 (k : Int)).wf = true := by simp [Lit.wf, IntKind.min, IntKind.max, IntKind.signed, IntKind.bits]; omega
end Go.Proofs.YthlhhnnlbpecnaaGreat

/- Attributes and symbols overwritten by marks, and held against them. Conditions: numbers from 1 to 2^40. -/
namespace Go.Proofs.YthlhhnnlbpecnaaGreat
set_option linter.unusedSimpArgs false
set_option linter.unusedVariables false
set_option maxRecDepth 100000
open Go.RowKit Go.WideShapes
set_option linter.unusedVariables false

theorem PutG.nil_at {w W : World} {b o o' : Nat} {X : List Nat} {vs : List Value} (h : PutG w b o X vs W) : PutG W b o' [] [] W := by
  obtain ⟨bs, bs', t, _, h2, _⟩ := h.blk
  exact PutG.nil h2
theorem PutG.join {w W W1 : World} {b o : Nat} {X : List Nat} {vs us : List Value} (h : PutG w b o X vs W) (s : PutG W b (o + vs.length) [] us W1) : PutG w b o X (vs ++ us) W1 := by
  obtain ⟨⟨bs, bs', t, h1, h2, h3, h4, h5⟩, hf, hs, e1, e2, e3⟩ := h
  obtain ⟨⟨cs, cs', t', k1, k2, k3, k4, k5⟩, kf, ks, l1, l2, l3⟩ := s
  rw [h2] at k1
  have e := Option.some.inj k1
  injection e with ea eb
  subst ea eb
  refine ⟨⟨bs, cs', t, h1, k2, by omega, fun i hi => ?_, fun i u hu => ?_⟩, fun k hk hb hX => (kf k (Nat.lt_of_lt_of_le hk hs) hb (by simp)).trans (hf k hk hb hX), Nat.le_trans hs ks, l1.trans e1, l2.trans e2, l3.trans e3⟩
  · rw [List.length_append] at hi
    rw [k4 i (by omega)]
    exact h4 i (by omega)
  · by_cases hl : i < vs.length
    · rw [List.getElem?_append_left hl] at hu
      rw [k4 (o + i) (by omega)]
      exact h5 i u hu
    · rw [List.getElem?_append_right (by omega)] at hu
      have := k5 _ u hu
      rwa [show o + vs.length + (i - vs.length) = o + i by omega] at this
theorem PutG.step {w W W1 W2 : World} {b o : Nat} {X G : List Nat} {vs us : List Value} (h : PutG w b o X vs W) (s : PutG W b (o + vs.length) [] us W1) (ha : Apart G W1 W2) (hb : b ∉ G) (hG : ∀ k ∈ G, k ∈ X) : PutG w b o X (vs ++ us) W2 :=
  (h.join s).apart ha hb hG
theorem Fresh.left {C : Nat} {w : World} {F G : List Nat} (h : Fresh C w (F ++ G)) : Fresh C w F := ⟨(List.nodup_append.1 h.nodup).1, fun k hk => h.from_ k (by simp [hk]), fun k hk => h.cells k (by simp [hk])⟩
theorem Fresh.right {C : Nat} {w : World} {F G : List Nat} (h : Fresh C w (F ++ G)) : Fresh C w G := ⟨(List.nodup_append.1 h.nodup).2.1, fun k hk => h.from_ k (by simp [hk]), fun k hk => h.cells k (by simp [hk])⟩
theorem Fresh.dis {C : Nat} {w : World} {F G : List Nat} (h : Fresh C w (F ++ G)) : ∀ k ∈ F, k ∉ G := fun k h1 h2 => (List.nodup_append.1 h.nodup).2.2 k h1 k h2 rfl
theorem Fresh.glue {C : Nat} {w : World} {F G : List Nat} (h : Fresh C w F) (g : Fresh C w G) (hd : ∀ k ∈ F, k ∉ G) : Fresh C w (F ++ G) :=
  ⟨List.nodup_append.2 ⟨h.nodup, g.nodup, fun a ha b hb e => hd a ha (e ▸ hb)⟩, fun k hk => by rcases List.mem_append.1 hk with hk | hk; exact h.from_ k hk; exact g.from_ k hk, fun k hk => by rcases List.mem_append.1 hk with hk | hk; exact h.cells k hk; exact g.cells k hk⟩
theorem cell_same {w W : World} {b : Nat} (h : W.heap[b]? = w.heap[b]?) (i : Nat) : W.cell? ⟨b, i, none⟩ = w.cell? ⟨b, i, none⟩ := by
  unfold World.cell?
  rw [h]
def mk_Atr (D k : Nat) (x : Atr) : Atr := ⟨mkT (k), ((k + 1 : Nat) : Int), ((k + 2 : Nat) : Int), (((k + 3 : Nat) : Int) % 3 == 0)⟩
def ct_Atr (D : Nat) (x : Atr) : Nat := 4
def mk_Sym (D k : Nat) (x : Sym) : Sym := ⟨mkT (k), mkL (mk_Atr D) (ct_Atr D) (k + 1) x.attrs⟩
def ct_Sym (D : Nat) (x : Sym) : Nat := 1 + (ctL (ct_Atr D) x.attrs)
def sk_Sym (D k : Nat) (x : Sym) : Sym := { x with attrs := mkL (mk_Atr D) (ct_Atr D) (k) x.attrs }
def sc_Sym (D : Nat) (x : Sym) : Nat := ctL (ct_Atr D) x.attrs
def sk_Ex : Nat → Nat → Ex → Ex
  | 0, _, x => x
  | d + 1, k, x => .mk x.h (mkL (mkE d) (ctE0 d) k x.args)
def sc_Ex : Nat → Ex → Nat
  | 0, _ => 0
  | d + 1, x => ctL (ctE0 d) x.args
end Go.Proofs.YthlhhnnlbpecnaaGreat

/- Equations and contributions overwritten by marks, and held against them. Conditions: numbers from 1 to 2^40. -/
namespace Go.Proofs.YthlhhnnlbpecnaaGreat
set_option linter.unusedSimpArgs false
set_option linter.unusedVariables false
set_option maxRecDepth 100000
open Go.RowKit Go.WideShapes
set_option linter.unusedVariables false

def mk_Eqn (D k : Nat) (x : Eqn) : Eqn := ⟨mk_Occ (k) x.at_, mkE D (k + (ct_Occ x.at_)) x.expr⟩
def ct_Eqn (D : Nat) (x : Eqn) : Nat := (ct_Occ x.at_) + (ctE0 D x.expr)
theorem EqnR.succ {D : Nat} {w : World} {x : Eqn} {cs : List Value} {F : List Nat} (h : EqnR D w x cs F) : ∃ d, D = d + 1 := by
  obtain ⟨_, _, _, h0, h1, _⟩ := h
  match D, h1 with
  | d + 1, _ => exact ⟨d, rfl⟩
def mk_Con (D k : Nat) (x : Con) : Con := ⟨mkT (k), mkT (k + 1), mkE D (k + 2) x.target, mkE D (k + 2 + (ctE0 D x.target)) x.value⟩
def ct_Con (D : Nat) (x : Con) : Nat := 2 + (ctE0 D x.target) + (ctE0 D x.value)
theorem ConR.succ {D : Nat} {w : World} {x : Con} {cs : List Value} {F : List Nat} (h : ConR D w x cs F) : ∃ d, D = d + 1 := by
  obtain ⟨_, _, _, _, _, _, h2, h3, _⟩ := h
  match D, h2 with
  | d + 1, _ => exact ⟨d, rfl⟩
end Go.Proofs.YthlhhnnlbpecnaaGreat

/- Rules and grammars overwritten by marks, and held against them. Conditions: numbers from 1 to 2^40. -/
namespace Go.Proofs.YthlhhnnlbpecnaaGreat
set_option linter.unusedSimpArgs false
set_option linter.unusedVariables false
set_option maxRecDepth 100000
open Go.RowKit Go.WideShapes
set_option linter.unusedVariables false

def mk_Rul (D k : Nat) (x : Rul) : Rul := ⟨mkT (k), mkT (k + 1), marks (k + 2) x.right.length, (((k + 2 + (x.right.length) : Nat) : Int) % 3 == 0), mkL (mk_Eqn D) (ct_Eqn D) (k + 3 + (x.right.length)) x.eqs, mkL (mk_Con D) (ct_Con D) (k + 3 + (x.right.length) + (ctL (ct_Eqn D) x.eqs)) x.cons⟩
def ct_Rul (D : Nat) (x : Rul) : Nat := 3 + (x.right.length) + (ctL (ct_Eqn D) x.eqs) + (ctL (ct_Con D) x.cons)
def sk_Rul (D k : Nat) (x : Rul) : Rul := { x with right := marks (k) x.right.length, eqs := mkL (mk_Eqn D) (ct_Eqn D) (k + x.right.length) x.eqs, cons := mkL (mk_Con D) (ct_Con D) (k + x.right.length + ctL (ct_Eqn D) x.eqs) x.cons }
def sc_Rul (D : Nat) (x : Rul) : Nat := x.right.length + ctL (ct_Eqn D) x.eqs + ctL (ct_Con D) x.cons
def sk_Grm (D k : Nat) (x : Grm) : Grm := { x with symbols := mkL (mk_Sym D) (ct_Sym D) (k) x.symbols, rules := mkL (mk_Rul D) (ct_Rul D) (k + ctL (ct_Sym D) x.symbols) x.rules }
def sc_Grm (D : Nat) (x : Grm) : Nat := ctL (ct_Sym D) x.symbols + ctL (ct_Rul D) x.rules
end Go.Proofs.YthlhhnnlbpecnaaGreat

/- What the walks of laws with marks share: facts behind a marking call; how many marks a thing takes, against its size. Plain: no program. -/
namespace Go.Proofs.YthlhhnnlbpecnaaGreat
set_option linter.unusedSimpArgs false
set_option linter.unusedVariables false
set_option maxRecDepth 100000
open Go.RowKit Go.WideShapes
set_option linter.unusedVariables false

/-- A cell of a box behind a call that wrote elsewhere. -/
theorem cell_apart {G : List Nat} {W W' : World} (ha : Apart G W W') {b i : Nat} {v : Value} (hc : W.cell? ⟨b, i, none⟩ = some v) (hb : b ∈ G → False) : ∀ X : World, Below W'.heap.size W' X → X.cell? ⟨b, i, none⟩ = some v := fun X hX => by
  have hlt : b < W.heap.size := cell_lt hc
  rw [cell_same (hX.block b (Nat.lt_of_lt_of_le hlt ha.size)) i, cell_same (ha.block b hlt hb) i]
  exact hc
theorem sumBy_le {α : Type} {f g : α → Int} (h : ∀ x, f x ≤ g x) : ∀ l : List α, sumBy f l ≤ sumBy g l
  | [] => Int.le_refl _
  | x :: r => by have := h x; have := sumBy_le h r; simp only [sumBy]; omega
theorem ctL_sum {α : Type} (ct : α → Nat) : ∀ l : List α, (ctL ct l : Int) = sumBy (fun x => (ct x : Int)) l
  | [] => rfl
  | x :: r => by have := ctL_sum ct r; simp only [ctL, sumBy]; omega
theorem sumBy_const_add {α : Type} (f : α → Int) (c : Int) : ∀ l : List α, sumBy (fun x => c + f x) l = c * l.length + sumBy f l
  | [] => by simp [sumBy]
  | x :: r => by have := sumBy_const_add f c r; simp only [sumBy, List.length_cons, this, Int.natCast_add, Int.mul_add]; omega
theorem sumBy_mul {α : Type} (f : α → Int) (c : Int) : ∀ l : List α, sumBy (fun x => c * f x) l = c * sumBy f l
  | [] => by simp [sumBy]
  | x :: r => by have := sumBy_mul f c r; simp only [sumBy, this, Int.mul_add]
theorem ctE0_le : ∀ (d : Nat) (e : Ex), (ctE0 d e : Int) ≤ 6 + 6 * bulkE d e
  | 0, e => by simp only [ctE0]; have := bulkE_nonneg 0 e; omega
  | d + 1, e => by
    have h1 := ctL_sum (ctE0 d) e.args
    have h2 := sumBy_le (fun x => ctE0_le d x) e.args
    rw [sumBy_const_add, sumBy_mul] at h2
    have h3 := sumBy_nonneg (bulkE_nonneg d) e.args
    simp only [ctE0, bulkE]
    omega
theorem ctE_args {d : Nat} (l : List Ex) : (ctL (ctE0 d) l : Int) ≤ 6 * l.length + 6 * sumBy (bulkE d) l := by
  have h1 := ctL_sum (ctE0 d) l
  have h2 := sumBy_le (fun x => ctE0_le d x) l
  rw [sumBy_const_add, sumBy_mul] at h2
  omega
theorem ctEqn_le (D : Nat) (x : Eqn) : (ct_Eqn D x : Int) ≤ 8 + 6 * bulkEqn D x := by
  have := ctE0_le D x.expr
  have := bulkOcc_nonneg D x.at_
  simp only [ct_Eqn, ct_Occ, bulkEqn]
  omega
theorem ctCon_le (D : Nat) (x : Con) : (ct_Con D x : Int) ≤ 14 + 6 * bulkCon D x := by
  have := ctE0_le D x.target
  have := ctE0_le D x.value
  simp only [ct_Con, bulkCon]
  omega
theorem ctAtr_le (D : Nat) : ∀ l : List Atr, (ctL (ct_Atr D) l : Int) = 4 * l.length
  | [] => rfl
  | x :: r => by
    have := ctAtr_le D r
    simp only [ctL, ct_Atr, List.length_cons]
    omega
theorem ctEqns_le (D : Nat) (l : List Eqn) : (ctL (ct_Eqn D) l : Int) ≤ 8 * l.length + 6 * sumBy (bulkEqn D) l := by
  have h1 := ctL_sum (ct_Eqn D) l
  have h2 := sumBy_le (fun x => ctEqn_le D x) l
  rw [sumBy_const_add, sumBy_mul] at h2
  omega
theorem ctCons_le (D : Nat) (l : List Con) : (ctL (ct_Con D) l : Int) ≤ 14 * l.length + 6 * sumBy (bulkCon D) l := by
  have h1 := ctL_sum (ct_Con D) l
  have h2 := sumBy_le (fun x => ctCon_le D x) l
  rw [sumBy_const_add, sumBy_mul] at h2
  omega
theorem scRul_le (D : Nat) (x : Rul) : (sc_Rul D x : Int) ≤ 14 * bulkRul D x := by
  have h1 := ctEqns_le D x.eqs
  have h2 := ctCons_le D x.cons
  have := bulkS_nonneg x.right
  have := sumBy_nonneg (bulkEqn_nonneg D) x.eqs
  have := sumBy_nonneg (bulkCon_nonneg D) x.cons
  simp only [sc_Rul, bulkRul]
  omega
theorem scSym_le (D : Nat) (x : Sym) : (sc_Sym D x : Int) ≤ 4 * bulkSym D x := by
  have h1 := ctAtr_le D x.attrs
  have := sumBy_nonneg (bulkAtr_nonneg D) x.attrs
  simp only [sc_Sym, bulkSym]
  omega
theorem scEx_le : ∀ (D : Nat) (x : Ex), (sc_Ex D x : Int) ≤ 6 * bulkE D x
  | 0, x => by simp only [sc_Ex]; have := bulkE_nonneg 0 x; omega
  | d + 1, x => by
    have := ctE_args (d := d) x.args
    simp only [sc_Ex, bulkE]
    omega
theorem Rul_cnt {D : Nat} {x : Rul} (h : bulkRul D x ≤ 1048576) : sc_Rul D x ≤ 100000000 := by have := scRul_le D x; omega
theorem Sym_cnt {D : Nat} {x : Sym} (h : bulkSym D x ≤ 1048576) : sc_Sym D x ≤ 100000000 := by have := scSym_le D x; omega
theorem Ex_cnt {D : Nat} {x : Ex} (h : bulkE D x ≤ 1048576) : sc_Ex D x ≤ 100000000 := by have := scEx_le D x; omega
theorem ctSym_le (D : Nat) (x : Sym) : (ct_Sym D x : Int) ≤ 1 + 4 * bulkSym D x := by
  have h1 := ctAtr_le D x.attrs
  have := sumBy_nonneg (bulkAtr_nonneg D) x.attrs
  simp only [ct_Sym, bulkSym]
  omega
theorem ctRul_le (D : Nat) (x : Rul) : (ct_Rul D x : Int) ≤ 3 + 14 * bulkRul D x := by
  have h1 := ctEqns_le D x.eqs
  have h2 := ctCons_le D x.cons
  have := bulkS_nonneg x.right
  have := sumBy_nonneg (bulkEqn_nonneg D) x.eqs
  have := sumBy_nonneg (bulkCon_nonneg D) x.cons
  simp only [ct_Rul, bulkRul]
  omega
theorem scGrm_le (D : Nat) (x : Grm) : (sc_Grm D x : Int) ≤ 14 * bulkGrm D x := by
  have a1 := ctL_sum (ct_Sym D) x.symbols
  have a2 := sumBy_le (fun x => ctSym_le D x) x.symbols
  rw [sumBy_const_add, sumBy_mul] at a2
  have b1 := ctL_sum (ct_Rul D) x.rules
  have b2 := sumBy_le (fun x => ctRul_le D x) x.rules
  rw [sumBy_const_add, sumBy_mul] at b2
  have := sumBy_nonneg (bulkSym_nonneg D) x.symbols
  have := sumBy_nonneg (bulkRul_nonneg D) x.rules
  simp only [sc_Grm, bulkGrm]
  omega
theorem Grm_cnt {D : Nat} {x : Grm} (h : bulkGrm D x ≤ 1048576) : sc_Grm D x ≤ 100000000 := by have := scGrm_le D x; omega
end Go.Proofs.YthlhhnnlbpecnaaGreat

/- Symbols, rules and equations sought in a grammar: the plain functions; sizes of what is found. Plain: no program. -/
namespace Go.Proofs.YthlhhnnlbpecnaaGreat
set_option linter.unusedSimpArgs false
set_option linter.unusedVariables false
set_option maxRecDepth 100000
open Go.RowKit Go.WideShapes
set_option linter.unusedVariables false

def Sym.zero : Sym := ⟨⟨#[]⟩, []⟩
def Rul.zero : Rul := ⟨⟨#[]⟩, ⟨#[]⟩, [], false, [], []⟩
def Ex.zero : Ex := .mk ⟨0, 0, 0, 0, ⟨#[]⟩, ⟨#[]⟩⟩ []
def findS (l : List Sym) (s : ByteArray) : Option Sym := l.find? fun a => a.name.toList == s.toList
def findR (l : List Rul) (s : ByteArray) : Option Rul := l.find? fun a => a.name.toList == s.toList
def findQ (l : List Eqn) (o : Occ) : Option Ex := (l.find? fun q => eqOcc q.at_ o).map (·.expr)
def rulesOf (g : Grm) (s : ByteArray) : List ByteArray := (g.rules.filter fun r => r.left.toList == s.toList).map (·.name)
theorem empty_ok : (⟨#[]⟩ : ByteArray).size ≤ maxLen := by simp [ByteArray.size, maxLen]
theorem SymR.zero (D : Nat) (w : World) : SymR D w Sym.zero [.string ⟨#[]⟩, .slice none 0 0] [] :=
  ⟨.slice none 0 0, [], rfl, ⟨empty_ok⟩, rfl, ⟨rfl, none, 0, rfl, Nat.le_refl _, by simp [maxLen], .inl ⟨rfl, rfl⟩⟩, rfl⟩
theorem nilSlR {α : Type} {n : Nat} {R : CR α} (w : World) : SlR n R w [] (.slice none 0 0) [] := ⟨none, 0, rfl, Nat.le_refl _, by simp [maxLen], .inl ⟨rfl, rfl⟩⟩
theorem RulR.zero (D : Nat) (w : World) : RulR D w Rul.zero [.string ⟨#[]⟩, .string ⟨#[]⟩, .slice none 0 0, .bool false, .slice none 0 0, .slice none 0 0] [] :=
  ⟨.slice none 0 0, [], .slice none 0 0, [], .slice none 0 0, [], rfl, ⟨empty_ok, empty_ok⟩, rfl, rfl, ⟨rfl, nilSlR w⟩, rfl, ⟨rfl, nilSlR w⟩, ⟨rfl, nilSlR w⟩, rfl⟩
theorem ExR.zero (d : Nat) (w : World) : ExR (d + 1) w Ex.zero [.int .i64 0, .int .i64 0, .int .i64 0, .int .i64 0, .string ⟨#[]⟩, .string ⟨#[]⟩, .slice none 0 0] [] :=
  ⟨.slice none 0 0, rfl, ⟨by decide, by decide, by decide, by decide, empty_ok, empty_ok⟩, nilSlR w⟩
theorem bulkSym_zero (D : Nat) : bulkSym D Sym.zero = 0 := rfl
theorem bulkRul_zero (D : Nat) : bulkRul D Rul.zero = 0 := rfl
theorem bulkE_zero : ∀ D, bulkE D Ex.zero = 0
  | 0 => rfl
  | _ + 1 => rfl
theorem bulk_syms {D : Nat} {x : Grm} (h : bulkGrm D x ≤ 1048576) : ∀ y ∈ x.symbols, bulkSym D y ≤ 1048576 := fun y hy => by
  have := sumBy_mem (bulkSym_nonneg D) hy
  have := sumBy_nonneg (bulkRul_nonneg D) x.rules
  unfold bulkGrm at h
  omega
theorem bulk_rules {D : Nat} {x : Grm} (h : bulkGrm D x ≤ 1048576) : ∀ y ∈ x.rules, bulkRul D y ≤ 1048576 := fun y hy => by
  have := sumBy_mem (bulkRul_nonneg D) hy
  have := sumBy_nonneg (bulkSym_nonneg D) x.symbols
  unfold bulkGrm at h
  omega
theorem bulk_nsyms {D : Nat} {x : Grm} (h : bulkGrm D x ≤ 1048576) : x.symbols.length ≤ 1048576 := by
  have := sumBy_nonneg (bulkRul_nonneg D) x.rules
  have := sumBy_nonneg (bulkSym_nonneg D) x.symbols
  unfold bulkGrm at h
  omega
theorem bulk_nrules {D : Nat} {x : Grm} (h : bulkGrm D x ≤ 1048576) : x.rules.length ≤ 1048576 := by
  have := sumBy_nonneg (bulkRul_nonneg D) x.rules
  have := sumBy_nonneg (bulkSym_nonneg D) x.symbols
  unfold bulkGrm at h
  omega
theorem bulk_attrs {D : Nat} {x : Sym} (h : bulkSym D x ≤ 1048576) : x.attrs.length ≤ 1048576 := by
  have := sumBy_nonneg (bulkAtr_nonneg D) x.attrs
  unfold bulkSym at h
  omega
theorem bulk_rul {D : Nat} {x : Rul} (h : bulkRul D x ≤ 1048576) : x.right.length ≤ 1048576 ∧ x.eqs.length ≤ 1048576 ∧ x.cons.length ≤ 1048576 := by
  have := bulkS_nonneg x.right
  have := sumBy_nonneg (bulkEqn_nonneg D) x.eqs
  have := sumBy_nonneg (bulkCon_nonneg D) x.cons
  unfold bulkRul at h
  omega
theorem bulk_eqs {D : Nat} {x : Rul} (h : bulkRul D x ≤ 1048576) : ∀ y ∈ x.eqs, bulkE D y.expr ≤ 1048576 := fun y hy => by
  have := bulkS_nonneg x.right
  have := sumBy_mem (bulkEqn_nonneg D) hy
  have := sumBy_nonneg (bulkCon_nonneg D) x.cons
  have h2 := bulkOcc_nonneg D y.at_
  have h3 : bulkEqn D y = bulkOcc D y.at_ + bulkE D y.expr := rfl
  unfold bulkRul at h
  omega
theorem bulk_cons {D : Nat} {x : Rul} (h : bulkRul D x ≤ 1048576) : ∀ y ∈ x.cons, bulkE D y.target ≤ 1048576 ∧ bulkE D y.value ≤ 1048576 := fun y hy => by
  have := bulkS_nonneg x.right
  have := sumBy_mem (bulkCon_nonneg D) hy
  have := sumBy_nonneg (bulkEqn_nonneg D) x.eqs
  have h2 := bulkE_nonneg D y.target
  have h4 := bulkE_nonneg D y.value
  have h3 : bulkCon D y = (y.symbol.size : Int) + (y.name.size : Int) + bulkE D y.target + bulkE D y.value := rfl
  unfold bulkRul at h
  omega
theorem findS_bulk {D : Nat} {x : Grm} (h : bulkGrm D x ≤ 1048576) (s : ByteArray) : bulkSym D ((findS x.symbols s).getD Sym.zero) ≤ 1048576 := by
  cases hf : findS x.symbols s with
  | none => simp [bulkSym_zero]
  | some y => exact bulk_syms h y (List.mem_of_find?_eq_some hf)
theorem findR_bulk {D : Nat} {x : Grm} (h : bulkGrm D x ≤ 1048576) (s : ByteArray) : bulkRul D ((findR x.rules s).getD Rul.zero) ≤ 1048576 := by
  cases hf : findR x.rules s with
  | none => simp [bulkRul_zero]
  | some y => exact bulk_rules h y (List.mem_of_find?_eq_some hf)
theorem findQ_bulk {D : Nat} {x : Rul} (h : bulkRul D x ≤ 1048576) (o : Occ) : bulkE D ((findQ x.eqs o).getD Ex.zero) ≤ 1048576 := by
  unfold findQ
  cases hf : x.eqs.find? (fun q => eqOcc q.at_ o) with
  | none => simp [bulkE_zero]
  | some y => exact bulk_eqs h y (List.mem_of_find?_eq_some hf)
theorem findS_cnt {D : Nat} {x : Grm} (h : bulkGrm D x ≤ 1048576) {s : ByteArray} : sc_Sym D ((findS x.symbols s).getD Sym.zero) ≤ 100000000 := Sym_cnt (findS_bulk h s)
theorem findR_cnt {D : Nat} {x : Grm} (h : bulkGrm D x ≤ 1048576) {s : ByteArray} : sc_Rul D ((findR x.rules s).getD Rul.zero) ≤ 100000000 := Rul_cnt (findR_bulk h s)
theorem findQ_cnt {D : Nat} {x : Rul} (h : bulkRul D x ≤ 1048576) {o : Occ} : sc_Ex D ((findQ x.eqs o).getD Ex.zero) ≤ 100000000 := Ex_cnt (findQ_bulk h o)
theorem rulesOf_cnt {D : Nat} {x : Grm} (h : bulkGrm D x ≤ 1048576) {s : ByteArray} : (rulesOf x s).length ≤ 100000000 := by
  have := bulk_nrules h
  have := List.length_filter_le (fun r : Rul => r.left.toList == s.toList) x.rules
  unfold rulesOf
  rw [List.length_map]
  omega
/-- The attributes that a rule must define. -/
def dueMode (pos : Nat) : Int := if pos = 0 then 2 else 1
def dueAt (g : Grm) (x : Rul) (pos : Nat) : List Occ := (((findS g.symbols (symAt x pos)).getD Sym.zero).attrs.filter fun a => a.mode == dueMode pos).map fun a => ⟨pos, a.name⟩
def reqO (g : Grm) (x : Rul) : List Occ := (List.range (x.right.length + 1)).flatMap (dueAt g x)
theorem dueAt_len {D : Nat} {g : Grm} (h : bulkGrm D g ≤ 1048576) (x : Rul) (pos : Nat) : (dueAt g x pos).length ≤ 1048576 := by
  have := bulk_attrs (findS_bulk h (symAt x pos))
  have := List.length_filter_le (fun a : Atr => a.mode == dueMode pos) ((findS g.symbols (symAt x pos)).getD Sym.zero).attrs
  unfold dueAt
  rw [List.length_map]
  omega
end Go.Proofs.YthlhhnnlbpecnaaGreat

/- One element appended to a row that the call owns. Plain: no program. -/
namespace Go.Proofs.YthlhhnnlbpecnaaGreat
set_option linter.unusedSimpArgs false
set_option linter.unusedVariables false
set_option maxRecDepth 100000
open Go.RowKit

theorem own_below {w w' : World} {base e size n : Nat} {v : Value} {xs : List Value} (h : w.ownsRow base e size v n xs) (hb : Below w.heap.size w w') : w'.ownsRow base e size v n xs := by
  obtain ⟨h1, h2⟩ := h
  refine ⟨h1, ?_⟩
  rcases h2 with h2 | ⟨g, cap, cur, h3, h4, h5, h6⟩
  · exact .inl h2
  · exact .inr ⟨g, cap, cur, h3, h4, blk_below h5 hb (blk_lt h5), h6⟩
theorem app_own {P : Program} {ops : Array Oper} {rest : List Oper} {o : Oper} {a : Act} {Q : Exit → Act → World → Prop} (hgd : o.guard = none) (s x : Operand) (t e : TypeId)
    (ho : o.op = .call { callee := .builtin .append, args := #[s, x], argTypes := #[t, t] }) (ht : P.underlying t = some (.slice e)) {z : Value} {size bytes : Nat}
    (hinfo : (P.info? e).map (fun i => (i.zero, i.size, i.bytes)) = some (some z, size, bytes)) (hzs : z.cells.size = size) (hsz : 0 < size) (wr : World) (base : Nat) (v : Value) (n : Nat) (xs : List Value)
    (hown : wr.ownsRow base e size v n xs) (hs : a.eval s = v) (ys : List Value) (hyl : ys.length = size) (hy1 : ∀ u ∈ ys, u.oneCell' = true) (hx : a.eval x = .slice (some ⟨wr.heap.size, 0, none⟩) 1 1)
    (hn : n + 1 ≤ 1099511627776) (hby : (n + 1) * bytes ≤ 140737488355328) (hbase : base ≤ wr.heap.size)
    (h : ∀ v' w', w'.ownsRow base e size v' (n + 1) (xs ++ ys) → Below base wr w' → wpList P ops Q rest (a.put o.dst v') w') : wpList P ops Q (o :: rest) a (wr.alloc (.cells ys.toArray e)) := by
  obtain ⟨i0, hi, hz0, hz1, hz2⟩ := info_parts hinfo
  refine wpList_append_own _ hgd s x t ho base e i0 z size bytes ht hi hz0 hz1 hz2 hzs hsz v n xs hs (own_below hown ((Below.refl _ _).alloc (Nat.le_refl _) _)) ⟨wr.heap.size, 0, none⟩ 1 1 ys hx (by omega) (fun j u hu => ?_) hy1 (by unfold maxLen; omega) hby (by simp; omega) ?_
  · have := CellsAt.new wr ys e j u hu
    rw [Nat.zero_add] at this
    unfold Addr.add
    split
    · rename_i h0
      subst h0
      exact this
    · rw [show (0 : Nat) + j = j by omega]
      exact this
  · intro v' w' h1 h2 _
    refine h v' w' h1 (((Below.refl base wr).alloc hbase _).grown h2 (by simp; omega) (fun k hk => ?_))
    obtain ⟨_, h3⟩ := hown
    rcases h3 with ⟨rfl, _⟩ | ⟨g, c0, cur, rfl, hg, _⟩
    · cases hk
    · simp only [Value.ownBlock, Option.some.injEq] at hk
      omega
end Go.Proofs.YthlhhnnlbpecnaaGreat
