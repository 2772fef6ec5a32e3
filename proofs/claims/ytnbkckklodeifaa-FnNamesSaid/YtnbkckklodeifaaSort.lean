/- Texts in ascending order, each once: contracts of both sides; a list whose texts all differ. Conditions: at most 2^20 texts. -/
import Derived.Test.YtnbkckklodeifaaSortP
import Derived.Test.YtnbkckklodeifaaWithout
import Derived.Test.YtnbkckklodeifaaShelf
import Derived.Sort.OwnSorted
import Derived.Lib.OwnBridge
import Derived.Deep.RegionHeld3
import Derived.Deep.QuietTactic
import Derived.BigQuiet
namespace Go.Proofs.Ytnbkckklodeifaa
set_option maxRecDepth 100000
open Go.RowKit Go.WideShapes Go.Sort
set_option linter.unusedVariables false

def sortN (xs : List ByteArray) : List ByteArray := (sortB (xs.map (·.data.toList))).map fun l => ⟨l.toArray⟩
theorem sortN_row (xs : List ByteArray) : (sortB (xs.map (·.data.toList))).map encStr = (sortN xs).map Value.string := by
  unfold sortN
  rw [List.map_map]
  rfl
theorem sortN_mem {xs : List ByteArray} {z : ByteArray} (h : z ∈ sortN xs) : z ∈ xs := by
  obtain ⟨l, hl, rfl⟩ := List.mem_map.1 h
  obtain ⟨y, hy, rfl⟩ := List.mem_map.1 ((sortB_both _).2 l |>.1 hl)
  simpa using hy
theorem sortN_len (xs : List ByteArray) : (sortN xs).length ≤ xs.length := by
  unfold sortN
  rw [List.length_map]
  have := sortB_len_le (xs.map (·.data.toList)) xs.length 0 (by simp)
  simpa [sortB] using this
theorem left_of {w w1 : World} {base e g cap n nn q : Nat} {os : Array Obj} {ss : List Bs} (hown : w1.ownsRow base e 1 (.slice (some ⟨g, 0, none⟩) n cap) n (ss.map encStr)) (hbel : Below base w w1) (hbg : base ≤ g) (hbw : base ≤ w1.heap.size) (hlen : ss.length = n) :
    (putRow encStr (Sort.ahead (grow (putRow encStr (Sort.ahead w1 nn) g 0 (ss.mergeSort fun x y => decide (x ≤ y)).toArray) os) q) g 0 (Lib.compact (ss.mergeSort fun x y => decide (x ≤ y)) ++ List.replicate ((ss.mergeSort fun x y => decide (x ≤ y)).length - (Lib.compact (ss.mergeSort fun x y => decide (x ≤ y))).length) []).toArray).ownsRow base e 1 (.slice (some ⟨g, 0, none⟩) (Lib.compact (ss.mergeSort fun x y => decide (x ≤ y))).length cap) (Lib.compact (ss.mergeSort fun x y => decide (x ≤ y))).length ((sortB ss).map encStr) ∧
    Below base w (putRow encStr (Sort.ahead (grow (putRow encStr (Sort.ahead w1 nn) g 0 (ss.mergeSort fun x y => decide (x ≤ y)).toArray) os) q) g 0 (Lib.compact (ss.mergeSort fun x y => decide (x ≤ y)) ++ List.replicate ((ss.mergeSort fun x y => decide (x ≤ y)).length - (Lib.compact (ss.mergeSort fun x y => decide (x ≤ y))).length) []).toArray) := by
  have hl2 : (ss.mergeSort fun x y => decide (x ≤ y)).length = ss.length := List.length_mergeSort ss
  have hle := Lib.compact_length_le (ss.mergeSort fun x y => decide (x ≤ y))
  subst hlen
  rcases hown.2 with ⟨h0, _⟩ | ⟨g', cap', cur, hv, hbase, hb, h1, h2, h3, h4⟩
  · cases h0
  cases hv
  have hs := ownsRow_sorted (n := nn) (os := os) (ts := ss.mergeSort fun x y => decide (x ≤ y)) hl2 hbase hb h1 h2 h3
  have hc := Lib.ownsRow_putRow (q := q) (k := (Lib.compact (ss.mergeSort fun x y => decide (x ≤ y))).length) (ys := Lib.compact (ss.mergeSort fun x y => decide (x ≤ y)) ++ List.replicate ((ss.mergeSort fun x y => decide (x ≤ y)).length - (Lib.compact (ss.mergeSort fun x y => decide (x ≤ y))).length) []) hs (by simp; omega) (by omega)
  rw [List.take_left] at hc
  rw [← sorted_once ss]
  exact ⟨hc, Lib.below_putRow (hbel.grown (grownBy_sorted _) hbw (fun j hj => by cases hj; exact hbase)) hbg⟩
set_option maxRecDepth 100000 in
set_option maxHeartbeats 2000000 in
theorem i_SortNames (D : Nat) (xs : List ByteArray) (v : Value) (F : List Nat) (w : World) (hs : SlR 1 (StrR D) w xs v F) (hn : xs.length ≤ 1048576) :
    Calls Try.prog 6 #[v] w fun en w' => ∃ u G, en = .returned u ∧ SlR 1 (StrR D) w' (sortN xs) u G ∧ Fresh w.heap.size w' G ∧ Below w.heap.size w w' := by
  obtain ⟨A, cap, rfl, hlc, hm⟩ := hs.form
  obtain ⟨hr, hx⟩ := hs.strs
  have Hx := hide hx
  match A, xs, hr with
  | none, x :: r, hr =>
    obtain ⟨b, off, h, _⟩ := hr.2 (by simp)
    cases h
  | none, [], hr =>
    clear hr hx hs
    go_enter Try.func6, Try.ntmps6
    go_wp2_with (first
      | (go_at_call 18; refine (Try.slices_Clone_string_nil 0 cap _).mono ?_; rintro e w' ⟨rfl, rfl⟩)
      | (go_at_call 19; refine (Try.slices_Sort_string_none none 0 _).mono ?_; rintro e w' ⟨rfl, rfl⟩)
      | (go_at_call 20; refine (Try.slices_Compact_string_empty none 0 _).mono ?_; rintro e w' ⟨rfl, rfl⟩))
    go_ret
    exact ⟨_, [], rfl, ⟨none, 0, rfl, Nat.le_refl _, by simp [maxLen], .inl ⟨rfl, rfl⟩⟩, Fresh.nil _ _, Below.refl _ _⟩
  | some ad, xs, hr =>
    have hclone : Calls Try.prog 18 #[.slice (some ad) xs.length cap] w fun e w' => ∃ v', e = .returned v' ∧ w'.ownsRow w.heap.size 9 1 v' xs.length ((xs.map (·.data.toList)).map encStr) ∧ v' ≠ .slice none 0 0 ∧ Below w.heap.size w w' := by
      cases xs with
      | nil => exact Try.slices_Clone_string_zero ad cap w
      | cons x r =>
        obtain ⟨b, off, h, hb', hc⟩ := hr.2 (by simp)
        injection h with h
        subst h
        refine (Try.slices_Clone_string b off (x :: r).length cap (x :: r) w (Nat.le_refl _) (by omega) (fun j hj => hc j _ (by rw [List.getElem?_map, List.getElem?_eq_getElem hj]; simp [List.getD, List.getElem?_eq_getElem hj]))).mono ?_
        rintro e w' ⟨v', rfl, h1, h2, h3⟩
        rw [List.take_length] at h1
        exact ⟨v', rfl, by rw [Lib.map_encStr]; exact h1, h2, h3⟩
    have Hrow := hide (sortN_row xs)
    have Hss := hide (show (xs.map (·.data.toList)).length = xs.length by simp)
    generalize xs.map (·.data.toList) = ss at hclone Hrow Hss
    clear hr hx hs
    go_enter Try.func6, Try.ntmps6
    go_wp2_with (first
      | (go_at_call 18; refine hclone.mono ?_; rintro e w1 ⟨v1, rfl, hown, hnn, hbel⟩
         obtain ⟨g, cap1, rfl, hbg, hgl, hncap, hcm, hlen, hH⟩ := Lib.holds_of_ownsRow hown hnn
         have hsort := Try.slices_Sort_string g 0 cap1 ss w1 hH hgl (by omega)
         rw [hlen] at hsort
         have X := hide (show w1.ownsRow w.heap.size 9 1 (.slice (some ⟨g, 0, none⟩) xs.length cap1) xs.length (ss.map encStr) ∧ Below w.heap.size w w1 ∧ w.heap.size ≤ g ∧ g < w1.heap.size ∧ xs.length ≤ cap1 ∧ cap1 ≤ maxLen ∧ ss.length = xs.length ∧ Holds encStr w1 g 0 ss.toArray from ⟨hown, hbel, hbg, hgl, hncap, hcm, hlen, hH⟩)
         clear hown hbel hH hnn)
      | (go_at_call 19; refine hsort.mono ?_; rintro e w2 ⟨rfl, nn, os, rfl⟩
         have hl2 : (ss.mergeSort fun x y => decide (x ≤ y)).length = xs.length := by rw [List.length_mergeSort]; exact X.out.2.2.2.2.2.2.1
         have hH2 : Holds encStr (grow (putRow encStr (Sort.ahead w1 nn) g 0 (ss.mergeSort fun x y => decide (x ≤ y)).toArray) os) g 0 (ss.mergeSort fun x y => decide (x ≤ y)).toArray :=
           holds_grow encStr _ os g 0 _ (by simpa [putRow, mapBlock, Sort.ahead] using X.out.2.2.2.1) (holds_putRow encStr _ g 0 _ _ (holds_ahead encStr w1 nn g 0 _ X.out.2.2.2.2.2.2.2) (by simp))
         have hcomp := Try.slices_Compact_string g 0 cap1 (ss.mergeSort fun x y => decide (x ≤ y)) _ hH2 (by omega) (by have := X.out.2.2.2.2.1; omega)
         rw [hl2] at hcomp
         clear hH2 hsort)
      | (go_at_call 20; refine hcomp.mono ?_; rintro e w3 ⟨rfl, q, rfl⟩))
    go_ret
    obtain ⟨h1, h2⟩ := left_of (nn := nn) (q := q) (os := os) X.out.1 X.out.2.1 X.out.2.2.1 (Nat.le_trans X.out.2.2.1 (Nat.le_of_lt X.out.2.2.2.1)) X.out.2.2.2.2.2.2.1
    rw [hl2] at h1 h2
    rw [Hrow.out] at h1
    obtain ⟨G, h3, h4⟩ := own_strs (D := D) h1 (fun x hx => Hx.out x (sortN_mem hx))
    exact ⟨_, G, rfl, h3, h4, h2⟩
theorem own_take {w : World} {base e g n cap k : Nat} {xs : List Value} (h : w.ownsRow base e 1 (.slice (some ⟨g, 0, none⟩) n cap) n xs) (hk : k ≤ n) : w.ownsRow base e 1 (.slice (some ⟨g, 0, none⟩) k cap) k (xs.take k) := by
  obtain ⟨h1, h2⟩ := h
  rcases h2 with ⟨h0, _⟩ | ⟨g', cap', cur, hv, hg, hh, hn, hcap, hsz, htake⟩
  · cases h0
  · cases hv
    refine ⟨by rw [List.length_take]; omega, .inr ⟨g, cap, cur, rfl, hg, hh, by omega, hcap, hsz, ?_⟩⟩
    rw [← htake, List.take_take]
    congr 1
    omega
theorem step_rows {P : Program} {ops : Array Oper} {o : Oper} {a : Act} {w : World} {K : Act → World → Prop} {Q : Exit → Act → World → Prop} {E : Prop} (hg : o.guard = none) (s x : Operand) (t e : TypeId)
    (hop : o.op = .call { callee := .builtin .append, args := #[s, x], argTypes := #[t, t] }) (ht : P.underlying t = some (.slice e)) {z : Value} {size bytes : Nat}
    (hinfo : (P.info? e).map (fun i => (i.zero, i.size, i.bytes)) = some (some z, size, bytes)) (hzs : z.cells.size = size) (hsz : 0 < size) (base : Nat) (v : Value) (n : Nat) (xs : List Value)
    (hown : w.ownsRow base e size v n xs) (hs : a.eval s = v) (ad : Addr) (m c : Nat) (news : List Value) (hx : a.eval x = .slice (some ad) m c) (hl : news.length = m * size)
    (hnews : ∀ j u, news[j]? = some u → w.cell? (ad.add j) = some u) (h1 : ∀ u ∈ news, u.oneCell' = true) (hn : n + m ≤ 1099511627776) (hby : (n + m) * bytes ≤ 140737488355328) (hbase : base ≤ w.heap.size)
    (hK : ∀ v' w', w'.ownsRow base e size v' (n + m) (xs ++ news) → w.grownBy w' v.ownBlock → K (a.put o.dst v') w') :
    if Region.wanted o (yielded ops a.tmps) = true then Oper.wp P o a w K Q else E := by
  have hw : Region.wanted o (yielded ops a.tmps) = true := by simp [Region.wanted, hg]
  rw [if_pos hw]
  obtain ⟨i0, hi, hz0, hz1, hz2⟩ := info_parts hinfo
  exact wp_append_own w s x t hop base e i0 z size bytes ht hi hz0 hz1 hz2 hzs hsz v n xs hs hown ad m c news hx hl hnews h1 (by unfold maxLen; omega) hby hbase fun v' w' h2 h3 _ => hK v' w' h2 h3
/-- What is held over the last region: old memory. -/
def Kept (n : Nat) (V : World) (W : World) : Prop := Below n V W ∧ V.heap.size ≤ W.heap.size ∧ n ≤ V.heap.size
theorem Kept.drew {n : Nat} {V W : World} (h : Kept n V W) : Kept n V W.drew := ⟨h.1.drew, h.2.1, h.2.2⟩
theorem Kept.alloc {n : Nat} {V W : World} (o : Obj) (h : Kept n V W) : Kept n V (W.alloc o) :=
  ⟨h.1.alloc (Nat.le_trans h.2.2 h.2.1) o, by rw [World.size_alloc]; exact Nat.le_succ_of_le h.2.1, h.2.2⟩
theorem Kept.grown {n : Nat} {V W W' : World} {row : Option Nat} (h : Kept n V W) (hg : W.grownBy W' row) (hr : ∀ k, row = some k → n ≤ k) : Kept n V W' :=
  ⟨h.1.grown hg (Nat.le_trans h.2.2 h.2.1) hr, Nat.le_trans h.2.1 hg.size, h.2.2⟩
theorem Kept.room {n : Nat} {V W : World} (h : Kept n V W) : n ≤ W.heap.size := Nat.le_trans h.2.2 h.2.1
theorem add0 (g k : Nat) : (⟨g, 0, none⟩ : Addr).add k = ⟨g, k, none⟩ := by
  unfold Addr.add
  split
  · rename_i h; subst h; rfl
  · rw [Nat.zero_add]
theorem addk (g a k : Nat) : (⟨g, a, none⟩ : Addr).add k = ⟨g, a + k, none⟩ := by
  unfold Addr.add
  split
  · rename_i h; subst h; rfl
  · rfl
theorem new_cells (W : World) (ys : List Value) (e : TypeId) : ∀ j u, ys[j]? = some u → (W.alloc (.cells ys.toArray e)).cell? ((⟨W.heap.size, 0, none⟩ : Addr).add j) = some u := by
  intro j u hu
  have := CellsAt.new W ys e j u hu
  rw [Nat.zero_add] at this
  rw [add0]
  exact this
theorem new_cells_drew (W : World) (ys : List Value) (e : TypeId) : ∀ j u, ys[j]? = some u → (W.alloc (.cells ys.toArray e)).drew.cell? ((⟨W.heap.size, 0, none⟩ : Addr).add j) = some u := new_cells W ys e
theorem encStr_one {u : Value} {l : List Bs} (h : u ∈ l.map encStr) : u.oneCell' = true := by
  obtain ⟨y, _, rfl⟩ := List.mem_map.1 h
  rfl
theorem sort_step {xs : List ByteArray} {L : List Bs} {x : ByteArray} {j a m : Nat} {w2 : World} {base e : TypeId} {v2 : Value} {news : List Value} (hL : L = sortB ((xs.take j).map (·.data.toList))) (hx : xs[j]? = some x) (ha : a ≤ L.length)
    (hlow : ∀ k y, k < a → L[k]? = some y → y < x.data.toList) (hhigh : ∀ y, L[a]? = some y → ¬ y < x.data.toList ∧ y ≠ x.data.toList) (hn : news = (L.map encStr).drop a) (hm : m = L.length - a)
    (hown : w2.ownsRow base e 1 v2 (a + 1 + m) (((L.map encStr).take a ++ [.string x]) ++ news)) :
    ∃ (L' : List Bs) (g2 cp2 : Nat), v2 = .slice (some ⟨g2, 0, none⟩) L'.length cp2 ∧ L' = sortB ((xs.take (j + 1)).map (·.data.toList)) ∧ w2.ownsRow base e 1 v2 L'.length (L'.map encStr) := by
  have h1 : sortB ((xs.take (j + 1)).map (·.data.toList)) = L.take a ++ x.data.toList :: L.drop a := by
    have := sortB_take (l := xs.map (·.data.toList)) (j := j) (x := x.data.toList) (by rw [List.getElem?_map, hx]; rfl)
    rw [← List.map_take, ← List.map_take, ← hL] at this
    rw [this, ins_at x.data.toList L a ha hlow (fun y hy => (hhigh y hy).1), if_neg (fun h => (hhigh _ h).2 rfl)]
  have h2 : (L.take a ++ x.data.toList :: L.drop a).map encStr = ((L.map encStr).take a ++ [.string x]) ++ news := by
    subst hn
    simp [encStr, List.map_take, List.map_drop]
  have h3 : (L.take a ++ x.data.toList :: L.drop a).length = a + 1 + m := by
    simp
    omega
  rcases hown.2 with ⟨_, h0⟩ | ⟨g2, cp2, cur, hv, _⟩
  · omega
  · exact ⟨_, g2, cp2, by rw [h3]; exact hv, h1.symm, by rw [h2, h3]; exact hown⟩
end Go.Proofs.Ytnbkckklodeifaa
