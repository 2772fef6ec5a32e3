/- A region that draws its order, by what is held whatever has been done so far: each operation, whenever it may come up, keeps it. Plain: no program. -/
import Derived.Test.YtaihdnlpdibkoaaKit
import Derived.Test.YtaihdnlpdibkoaaMem
import Derived.OrdersHeld
namespace Go.Proofs.Ytaihdnlpdibkoaa
set_option maxRecDepth 100000
open Go.RowKit
set_option linter.unusedVariables false

/-- Operation i is done too. -/
def updL (l : Nat → Bool) (i : Nat) : Nat → Bool := fun j => l j || j == i
theorem updL_ne {l : Nat → Bool} {i j : Nat} (h : updL l i j = true) (hj : j ≠ i) : l j = true := by
  unfold updL at h
  rw [show (j == i) = false from beq_eq_false_iff_ne.2 hj, Bool.or_false] at h
  exact h
theorem updL_self (l : Nat → Bool) (i : Nat) : updL l i i = true := by unfold updL; simp
theorem upd_last {l : Nat → Bool} {i z : Nat} (h : l z = true → ∀ i, i < z → l i = true) (hi : l i = false) (hz : i < z) : l z = false := by
  cases hl : l z with
  | false => rfl
  | true => have := h hl i hz; rw [hi] at this; cases this
/-- The operation waits for operation j. -/
def waitsFor (A : Array Edge) (j : Nat) : Bool := A.any fun e => Region.binds .any e && e.on == j
theorem waits_spec {A : Array Edge} {l : Nat → Bool} (h : ∀ e ∈ A, Region.binds .any e = true → l e.on = true) {j : Nat} (hj : waitsFor A j = true) : l j = true := by
  unfold waitsFor at hj
  rw [Array.any_eq_true] at hj
  obtain ⟨k, hk, h2⟩ := hj
  simp only [Bool.and_eq_true, beq_iff_eq] at h2
  rw [← h2.2]
  exact h _ (Array.getElem_mem hk) h2.1
theorem waits_all {A : Array Edge} {l : Nat → Bool} (h : ∀ j, waitsFor A j = true → l j = true) {z : Nat} (hz : (List.range z).all (waitsFor A) = true) (k : Nat) : ∀ i, i < z → updL l k i = true := fun i hi => by
  have := h i (List.all_eq_true.1 hz i (List.mem_range.2 hi))
  unfold updL
  rw [this]
  rfl
/-- A block made since (from n on) stays as it is. -/
def New (n : Nat) (w : World) (g : Nat) (o : Obj) : Prop := n ≤ g ∧ w.heap[g]? = some o
theorem New.lt {n g : Nat} {w : World} {o : Obj} (h : New n w g o) : g < w.heap.size := (Array.getElem?_eq_some_iff.1 h.2).1
theorem New.made {n : Nat} {w : World} (h : n ≤ w.heap.size) (cs : Array Value) (t : TypeId) : New n (w.alloc (.cells cs t)) w.heap.size (.cells cs t (0, 0)) := ⟨h, heap_alloc_new w _⟩
/-- Every block made since stays. -/
def Stay (n : Nat) (w w' : World) : Prop := ∀ g o, New n w g o → New n w' g o
theorem Stay.alloc (n : Nat) (w : World) (o : Obj) : Stay n w (w.alloc o) := fun g o' h => ⟨h.1, by rw [Below.heap_alloc _ _ _ h.lt]; exact h.2⟩
theorem Stay.grown {n b : Nat} {w w' : World} (hb : b < n) (hg : w.grownBy w' (some b)) : Stay n w w' := fun g o h => ⟨h.1, (hg.block g h.lt (by intro e; injection e; have := h.1; omega)).trans h.2⟩
theorem Stay.below {n : Nat} {w w' : World} (hb : Below w.heap.size w w') : Stay n w w' := fun g o h => ⟨h.1, (hb.block g h.lt).trans h.2⟩
/-- A slice of a block made since; a pointer into one. -/
def SlN (n : Nat) (w : World) (x : Value) (cs : Array Value) (t : TypeId) (k : Nat) : Prop := ∃ g, x = .slice (some ⟨g, 0, none⟩) k k ∧ New n w g (.cells cs t (0, 0))
def PtN (n : Nat) (w : World) (x : Value) (cs : Array Value) (t : TypeId) (off : Nat) : Prop := ∃ g, x = .pointer (some ⟨g, off, none⟩) ∧ New n w g (.cells cs t (0, 0))
theorem SlN.mono {n k : Nat} {w w' : World} {x : Value} {cs : Array Value} {t : TypeId} (s : Stay n w w') (h : SlN n w x cs t k) : SlN n w' x cs t k := h.imp fun _ h => ⟨h.1, s _ _ h.2⟩
theorem PtN.mono {n k : Nat} {w w' : World} {x : Value} {cs : Array Value} {t : TypeId} (s : Stay n w w') (h : PtN n w x cs t k) : PtN n w' x cs t k := h.imp fun _ h => ⟨h.1, s _ _ h.2⟩
/-- A block written whole. -/
theorem put_whole {w w' : World} {g : Nat} {cs : List Value} {old : Array Value} {t : TypeId} (h : Put w g 0 cs old t w') (hs : old.size = cs.length) : w'.heap[g]? = some (.cells cs.toArray t (0, 0)) := by
  obtain ⟨cs', hb, hz, _, hin⟩ := h.blk
  have e : cs' = cs.toArray := by
    apply Array.ext
    · rw [hz, hs]; simp
    · intro i h1 h2
      have hi : i < cs.length := by simpa using h2
      have := hin i cs[i] (List.getElem?_eq_getElem hi)
      rw [Nat.zero_add, Array.getElem?_eq_getElem h1] at this
      simpa using Option.some.inj this
  rw [hb, e]
section
variable {P : Program} {ops : Array Oper} {Q : Exit → Act → World → Prop} {md : Region.Mode}
/-- Each operation waits for earlier ones alone. -/
def Forward (ops : Array Oper) : Bool := (List.range ops.size).all fun i => ((ops[i]?).map fun o => o.after.all fun e => !Region.binds .any e || decide (e.on < i)).getD true
theorem forward_spec (h : Forward ops = true) {i : Nat} {o : Oper} (hi : ops[i]? = some o) {e : Edge} (he : e ∈ o.after) (hb : Region.binds .any e = true) : e.on < i := by
  unfold Forward at h
  rw [List.all_eq_true] at h
  have h1 := h i (List.mem_range.2 (Array.getElem?_eq_some_iff.1 hi).1)
  rw [hi] at h1
  simp only [Option.map_some, Option.getD_some, Array.all_eq_true_iff_forall_mem] at h1
  have h2 := h1 e he
  rw [hb] at h2
  exact of_decide_eq_true (by simpa using h2)
theorem ready_nil (hf : Forward ops = true) {listed : Array Bool} (hs : listed.size = ops.size) (h : Region.ready .any ops listed = []) : ∀ i, i < ops.size → listed.getD i false = true := by
  intro i
  induction i using Nat.strongRecOn with
  | _ i ih =>
    intro hi
    by_cases hl : listed.getD i false = true
    · exact hl
    · exfalso
      have hm : i ∈ Region.ready .any ops listed := mem_ready.2 ⟨by
        rw [Array.getD_eq_getD_getElem?] at hl ⊢
        rw [Array.getElem?_eq_getElem (by omega)] at hl ⊢
        simpa using hl, ops[i], Array.getElem?_eq_getElem hi, fun e he hb => ih e.on (forward_spec hf (Array.getElem?_eq_getElem hi) he hb) (Nat.lt_trans (forward_spec hf (Array.getElem?_eq_getElem hi) he hb) hi)⟩
      rw [h] at hm
      cases hm
/-- How many are left. -/
def leftN (listed : Array Bool) : Nat := (listed.toList.filter (fun b => !b)).length
theorem left_upd {listed : Array Bool} {i : Nat} (h : listed.getD i true = false) : leftN (listed.setIfInBounds i true) + 1 = leftN listed := by
  have hlt : i < listed.size := by
    rcases Nat.lt_or_ge i listed.size with h' | h'
    · exact h'
    · rw [Array.getD_eq_getD_getElem?, Array.getElem?_eq_none h'] at h; cases h
  have hv : listed[i] = false := by
    rw [Array.getD_eq_getD_getElem?, Array.getElem?_eq_getElem hlt] at h
    simpa using h
  unfold leftN
  rw [Array.toList_setIfInBounds]
  have key : ∀ (l : List Bool) (i : Nat) (hi : i < l.length), l[i] = false → ((l.set i true).filter (fun b => !b)).length + 1 = (l.filter (fun b => !b)).length := by
    intro l
    induction l with
    | nil => intro i hi; simp at hi
    | cons b r ih =>
      intro i hi hb
      cases i with
      | zero =>
        simp only [List.getElem_cons_zero] at hb
        subst hb
        simp
      | succ i =>
        simp only [List.getElem_cons_succ] at hb
        have := ih i (by simpa using hi) hb
        cases b <;> simp [List.filter] <;> simpa using this
  exact key listed.toList i (by simpa using hlt) (by simpa using hv)
theorem any_inv (J : (Nat → Bool) → Act → World → Prop) (hf : Forward ops = true)
    (hstep : ∀ (i : Nat) (o : Oper), ops[i]? = some o → ∀ (l : Nat → Bool) a w, l i = false → (∀ e ∈ o.after, Region.binds .any e = true → l e.on = true) → J l a w →
      ∀ K : Act → World → Prop, Hid (∀ a' w', J (updL l i) a' w' → K a' w') → if Region.wanted o (yielded ops a.tmps) = true then Oper.wp P o a w K Q else K (a.put o.dst undef) w)
    (hend : ∀ l a w, (∀ i, i < ops.size → l i = true) → J l a w → Q .normal a w) :
    ∀ (fuel : Nat) (listed : Array Bool) (a : Act) (w : World), listed.size = ops.size → leftN listed ≤ fuel → J (fun i => listed.getD i false) a w → wpAny P .any ops Q fuel listed a w
  | 0, listed, a, w, hs, hl, hJ => by
    have hr : Region.ready .any ops listed = [] := by
      cases hq : Region.ready .any ops listed with
      | nil => rfl
      | cons i r =>
        have := left_upd (mem_ready.1 (show i ∈ Region.ready .any ops listed by rw [hq]; simp)).1
        omega
    exact ⟨hr, hend _ a w (ready_nil hf hs hr) hJ⟩
  | fuel + 1, listed, a, w, hs, hl, hJ => by
    refine ⟨fun hr => hend _ a w (ready_nil hf hs hr) hJ, fun i hi => ?_⟩
    obtain ⟨hun, o, ho, hall⟩ := mem_ready.1 hi
    have hlf : listed.getD i false = false := by
      rw [Array.getD_eq_getD_getElem?] at hun ⊢
      cases hg : listed[i]? with
      | none => rfl
      | some b => rw [hg] at hun; exact hun
    have h := hstep i o ho (fun j => listed.getD j false) a w hlf hall hJ (wpAny P .any ops Q fuel (listed.setIfInBounds i true)) (hide fun a' w' hJ' => any_inv J hf hstep hend fuel _ a' w' (by rw [Array.size_setIfInBounds]; exact hs) (by have := left_upd hun; omega) (by
      have e : (fun j => (listed.setIfInBounds i true).getD j false) = updL (fun j => listed.getD j false) i := by
        funext j
        unfold updL
        by_cases hj : i = j
        · subst hj
          have hlt : i < listed.size := by rw [hs]; exact (Array.getElem?_eq_some_iff.1 ho).1
          simp [Array.getD_eq_getD_getElem?, hlt]
        · rw [getD_set_ne false hj]
          have hji : (j == i) = false := by rw [beq_eq_false_iff_ne]; exact fun e => hj e.symm
          simp only [hji, Bool.or_false]
      rw [e]
      exact hJ'))
    unfold wpOp
    simp only [ho]
    by_cases hw : Region.wanted o (yielded ops a.tmps) = true
    · rw [if_pos hw] at h ⊢
      exact .inl h
    · rw [if_neg hw] at h ⊢
      exact h
theorem region_inv {id : Nat} {a : Act} {w : World} (J : (Nat → Bool) → Act → World → Prop) (hm : P.follows .mixedOrders = true) (hf : Forward ops = true) (h0 : J (fun _ => false) a w.drew)
    (hstep : ∀ (i : Nat) (o : Oper), ops[i]? = some o → ∀ (l : Nat → Bool) a w, l i = false → (∀ e ∈ o.after, Region.binds .any e = true → l e.on = true) → J l a w →
      ∀ K : Act → World → Prop, Hid (∀ a' w', J (updL l i) a' w' → K a' w') → if Region.wanted o (yielded ops a.tmps) = true then Oper.wp P o a w K Q else K (a.put o.dst undef) w)
    (hend : ∀ l a w, (∀ i, i < ops.size → l i = true) → J l a w → Q .normal a w) : (Code.region id ops true).wp P Q a w :=
  wp_region_any hm (any_inv J hf hstep hend ops.size (Array.replicate ops.size false) a w.drew (by simp) (by unfold leftN; rw [Array.toList_replicate]; exact Nat.le_trans (List.length_filter_le _ _) (by simp)) (by
    have e : (fun i => (Array.replicate ops.size false).getD i false) = fun _ => false := by
      funext i
      rw [Array.getD_eq_getD_getElem?, Array.getElem?_replicate]
      split <;> rfl
    rw [e]
    exact h0))
/-- The same, told from the frame that the region is entered with, operation by operation. -/
def EachOp (p : Nat → Oper → Prop) : Nat → List Oper → Prop
  | _, [] => True
  | k, o :: r => p k o ∧ EachOp p (k + 1) r
theorem eachOp_spec {p : Nat → Oper → Prop} : ∀ (l : List Oper) (k i : Nat) (o : Oper), EachOp p k l → l[i]? = some o → p (k + i) o
  | [], _, _, _, _, h => by cases h
  | x :: r, k, 0, o, h, hi => by
    obtain rfl : x = o := by simpa using hi
    exact h.1
  | x :: r, k, i + 1, o, h, hi => by
    have := eachOp_spec r (k + 1) i o h.2 (by simpa using hi)
    rwa [show k + 1 + i = k + (i + 1) by omega] at this
/-- Operation i waits for operation j, if only through others. -/
def deepW (ops : Array Oper) : Nat → Nat → Nat → Bool
  | 0, _, _ => false
  | f + 1, i, j => match ops[i]? with
    | none => false
    | some o => waitsFor o.after j || (List.range i).any fun m => waitsFor o.after m && deepW ops f m j
def Closed (ops : Array Oper) (l : Nat → Bool) : Prop := ∀ i o, ops[i]? = some o → l i = true → ∀ j, waitsFor o.after j = true → l j = true
theorem deep_spec {l : Nat → Bool} (hc : Closed ops l) : ∀ (f i j : Nat) (o : Oper), ops[i]? = some o → (∀ j, waitsFor o.after j = true → l j = true) → deepW ops f i j = true → l j = true
  | 0, _, _, _, _, _, h => by cases h
  | f + 1, i, j, o, ho, hw, h => by
    unfold deepW at h
    rw [ho] at h
    simp only [Bool.or_eq_true, List.any_eq_true, Bool.and_eq_true] at h
    rcases h with h | ⟨m, _, h1, h2⟩
    · exact hw j h
    · have hm := hw m h1
      cases hom : ops[m]? with
      | none =>
        cases f with
        | zero => cases h2
        | succ f => unfold deepW at h2; rw [hom] at h2; cases h2
      | some om => exact deep_spec hc f m j om hom (hc m om hom hm) h2
theorem deep_all {l : Nat → Bool} {i : Nat} (h : ∀ j, deepW ops ops.size i j = true → l j = true) {z : Nat} (hz : (List.range z).all (deepW ops ops.size i) = true) (k : Nat) : ∀ i, i < z → updL l k i = true := fun i hi => by
  have := h i (List.all_eq_true.1 hz i (List.mem_range.2 hi))
  unfold updL
  rw [this]
  rfl
def StepOp (P : Program) (ops : Array Oper) (Q : Exit → Act → World → Prop) (J : (Nat → Bool) → Act → World → Prop) (i : Nat) (o : Oper) : Prop :=
  ∀ (l : Nat → Bool) a' w', l i = false → (∀ j, deepW ops ops.size i j = true → l j = true) → J l a' w' →
      ∀ K : Act → World → Prop, Hid (∀ a'' w'', J (updL l i) a'' w'' → K a'' w'') → if Region.wanted o (yielded ops a'.tmps) = true then Oper.wp P o a' w' K Q else K (a'.put o.dst undef) w'
theorem region_invA {id : Nat} {a : Act} {w : World} (J : Act → (Nat → Bool) → Act → World → Prop) (hm : P.follows .mixedOrders = true) (hf : Forward ops = true) (h0 : J a (fun _ => false) a w.drew)
    (hstep : EachOp (StepOp P ops Q (J a)) 0 ops.toList)
    (hend : ∀ l a' w', (∀ i, i < ops.size → l i = true) → J a l a' w' → Q .normal a' w') : (Code.region id ops true).wp P Q a w :=
  region_inv (fun l a' w' => Closed ops l ∧ J a l a' w') hm hf ⟨fun _ _ _ h => (by cases h), h0⟩ (fun i o ho l a' w' h1 h2 hJ K hK => by
    have := eachOp_spec ops.toList 0 i o hstep (by rw [Array.getElem?_toList]; exact ho)
    rw [Nat.zero_add] at this
    have hd : ∀ j, waitsFor o.after j = true → l j = true := fun j hj => waits_spec h2 hj
    refine this l a' w' h1 (fun j hj => deep_spec hJ.1 _ i j o ho hd hj) hJ.2 K (hide fun a'' w'' h => hK.out a'' w'' ⟨fun k ok hk hl j hj => ?_, h⟩)
    unfold updL at hl ⊢
    by_cases hki : k = i
    · subst hki
      rw [ho] at hk
      obtain rfl := Option.some.inj hk
      rw [hd j hj]
      rfl
    · rw [show (k == i) = false from beq_eq_false_iff_ne.2 hki, Bool.or_false] at hl
      rw [hJ.1 k ok hk hl j hj]
      rfl) fun l a' w' hl hJ => hend l a' w' hl hJ.2
end
end Go.Proofs.Ytaihdnlpdibkoaa
