/- Texts in ascending order, each once: contracts of both sides; a list whose texts all differ. Conditions: at most 2^20 texts. -/
import Derived.Test.YtbhgadaphmaplaaSortP
import Derived.Test.YtbhgadaphmaplaaWithout
import Derived.Test.YtbhgadaphmaplaaShelf
import Derived.Sort.OwnSorted
import Derived.Lib.OwnBridge
import Derived.Deep.RegionHeld3
import Derived.Deep.QuietTactic
import Derived.BigQuiet
namespace Go.Proofs.Ytbhgadaphmaplaa
set_option maxRecDepth 100000
open Go.RowKit Go.WideShapes Go.Sort
set_option linter.unusedVariables false

def sortN (xs : List ByteArray) : List ByteArray := (sortB (xs.map (·.data.toList))).map fun l => ⟨l.toArray⟩
theorem sortN_row (xs : List ByteArray) : (sortB (xs.map (·.data.toList))).map encStr = (sortN xs).map Value.string := by
  unfold sortN
  rw [List.map_map]
  rfl
theorem sortN_mem {xs : List ByteArray} {z : ByteArray} (h : z ∈ sortN xs) : z ∈ xs := by
  obtain ⟨l, hl, rfl⟩ := List.mem_map.1 h
  obtain ⟨y, hy, rfl⟩ := List.mem_map.1 ((sortB_both _).2 l |>.1 hl)
  simpa using hy
theorem sortN_len (xs : List ByteArray) : (sortN xs).length ≤ xs.length := by
  unfold sortN
  rw [List.length_map]
  have := sortB_len_le (xs.map (·.data.toList)) xs.length 0 (by simp)
  simpa [sortB] using this
theorem left_of {w w1 : World} {base e g cap n nn q : Nat} {os : Array Obj} {ss : List Bs} (hown : w1.ownsRow base e 1 (.slice (some ⟨g, 0, none⟩) n cap) n (ss.map encStr)) (hbel : Below base w w1) (hbg : base ≤ g) (hbw : base ≤ w1.heap.size) (hlen : ss.length = n) :
    (putRow encStr (Sort.ahead (grow (putRow encStr (Sort.ahead w1 nn) g 0 (ss.mergeSort fun x y => decide (x ≤ y)).toArray) os) q) g 0 (Lib.compact (ss.mergeSort fun x y => decide (x ≤ y)) ++ List.replicate ((ss.mergeSort fun x y => decide (x ≤ y)).length - (Lib.compact (ss.mergeSort fun x y => decide (x ≤ y))).length) []).toArray).ownsRow base e 1 (.slice (some ⟨g, 0, none⟩) (Lib.compact (ss.mergeSort fun x y => decide (x ≤ y))).length cap) (Lib.compact (ss.mergeSort fun x y => decide (x ≤ y))).length ((sortB ss).map encStr) ∧
    Below base w (putRow encStr (Sort.ahead (grow (putRow encStr (Sort.ahead w1 nn) g 0 (ss.mergeSort fun x y => decide (x ≤ y)).toArray) os) q) g 0 (Lib.compact (ss.mergeSort fun x y => decide (x ≤ y)) ++ List.replicate ((ss.mergeSort fun x y => decide (x ≤ y)).length - (Lib.compact (ss.mergeSort fun x y => decide (x ≤ y))).length) []).toArray) := by
  have hl2 : (ss.mergeSort fun x y => decide (x ≤ y)).length = ss.length := List.length_mergeSort ss
  have hle := Lib.compact_length_le (ss.mergeSort fun x y => decide (x ≤ y))
  subst hlen
  rcases hown.2 with ⟨h0, _⟩ | ⟨g', cap', cur, hv, hbase, hb, h1, h2, h3, h4⟩
  · cases h0
  cases hv
  have hs := ownsRow_sorted (n := nn) (os := os) (ts := ss.mergeSort fun x y => decide (x ≤ y)) hl2 hbase hb h1 h2 h3
  have hc := Lib.ownsRow_putRow (q := q) (k := (Lib.compact (ss.mergeSort fun x y => decide (x ≤ y))).length) (ys := Lib.compact (ss.mergeSort fun x y => decide (x ≤ y)) ++ List.replicate ((ss.mergeSort fun x y => decide (x ≤ y)).length - (Lib.compact (ss.mergeSort fun x y => decide (x ≤ y))).length) []) hs (by simp; omega) (by omega)
  rw [List.take_left] at hc
  rw [← sorted_once ss]
  exact ⟨hc, Lib.below_putRow (hbel.grown (grownBy_sorted _) hbw (fun j hj => by cases hj; exact hbase)) hbg⟩
set_option maxRecDepth 100000 in
set_option maxHeartbeats 2000000 in
theorem i_SortNames (D : Nat) (xs : List ByteArray) (v : Value) (F : List Nat) (w : World) (hs : SlR 1 (StrR D) w xs v F) (hn : xs.length ≤ 1048576) :
    Calls Try.prog 14 #[v] w fun en w' => ∃ u G, en = .returned u ∧ SlR 1 (StrR D) w' (sortN xs) u G ∧ Fresh w.heap.size w' G ∧ Below w.heap.size w w' := by
  obtain ⟨A, cap, rfl, hlc, hm⟩ := hs.form
  obtain ⟨hr, hx⟩ := hs.strs
  have Hx := hide hx
  match A, xs, hr with
  | none, x :: r, hr =>
    obtain ⟨b, off, h, _⟩ := hr.2 (by simp)
    cases h
  | none, [], hr =>
    clear hr hx hs
    go_enter Try.func14, Try.ntmps14
    go_wp2_with (first
      | (go_at_call 19; refine (Try.slices_Clone_string_nil 0 cap _).mono ?_; rintro e w' ⟨rfl, rfl⟩)
      | (go_at_call 20; refine (Try.slices_Sort_string_none none 0 _).mono ?_; rintro e w' ⟨rfl, rfl⟩)
      | (go_at_call 21; refine (Try.slices_Compact_string_empty none 0 _).mono ?_; rintro e w' ⟨rfl, rfl⟩))
    go_ret
    exact ⟨_, [], rfl, ⟨none, 0, rfl, Nat.le_refl _, by simp [maxLen], .inl ⟨rfl, rfl⟩⟩, Fresh.nil _ _, Below.refl _ _⟩
  | some ad, xs, hr =>
    have hclone : Calls Try.prog 19 #[.slice (some ad) xs.length cap] w fun e w' => ∃ v', e = .returned v' ∧ w'.ownsRow w.heap.size 9 1 v' xs.length ((xs.map (·.data.toList)).map encStr) ∧ v' ≠ .slice none 0 0 ∧ Below w.heap.size w w' := by
      cases xs with
      | nil => exact Try.slices_Clone_string_zero ad cap w
      | cons x r =>
        obtain ⟨b, off, h, hb', hc⟩ := hr.2 (by simp)
        injection h with h
        subst h
        refine (Try.slices_Clone_string b off (x :: r).length cap (x :: r) w (Nat.le_refl _) (by omega) (fun j hj => hc j _ (by rw [List.getElem?_map, List.getElem?_eq_getElem hj]; simp [List.getD, List.getElem?_eq_getElem hj]))).mono ?_
        rintro e w' ⟨v', rfl, h1, h2, h3⟩
        rw [List.take_length] at h1
        exact ⟨v', rfl, by rw [Lib.map_encStr]; exact h1, h2, h3⟩
    have Hrow := hide (sortN_row xs)
    have Hss := hide (show (xs.map (·.data.toList)).length = xs.length by simp)
    generalize xs.map (·.data.toList) = ss at hclone Hrow Hss
    clear hr hx hs
    go_enter Try.func14, Try.ntmps14
    go_wp2_with (first
      | (go_at_call 19; refine hclone.mono ?_; rintro e w1 ⟨v1, rfl, hown, hnn, hbel⟩
         obtain ⟨g, cap1, rfl, hbg, hgl, hncap, hcm, hlen, hH⟩ := Lib.holds_of_ownsRow hown hnn
         have hsort := Try.slices_Sort_string g 0 cap1 ss w1 hH hgl (by omega)
         rw [hlen] at hsort
         have X := hide (show w1.ownsRow w.heap.size 9 1 (.slice (some ⟨g, 0, none⟩) xs.length cap1) xs.length (ss.map encStr) ∧ Below w.heap.size w w1 ∧ w.heap.size ≤ g ∧ g < w1.heap.size ∧ xs.length ≤ cap1 ∧ cap1 ≤ maxLen ∧ ss.length = xs.length ∧ Holds encStr w1 g 0 ss.toArray from ⟨hown, hbel, hbg, hgl, hncap, hcm, hlen, hH⟩)
         clear hown hbel hH hnn)
      | (go_at_call 20; refine hsort.mono ?_; rintro e w2 ⟨rfl, nn, os, rfl⟩
         have hl2 : (ss.mergeSort fun x y => decide (x ≤ y)).length = xs.length := by rw [List.length_mergeSort]; exact X.out.2.2.2.2.2.2.1
         have hH2 : Holds encStr (grow (putRow encStr (Sort.ahead w1 nn) g 0 (ss.mergeSort fun x y => decide (x ≤ y)).toArray) os) g 0 (ss.mergeSort fun x y => decide (x ≤ y)).toArray :=
           holds_grow encStr _ os g 0 _ (by simpa [putRow, mapBlock, Sort.ahead] using X.out.2.2.2.1) (holds_putRow encStr _ g 0 _ _ (holds_ahead encStr w1 nn g 0 _ X.out.2.2.2.2.2.2.2) (by simp))
         have hcomp := Try.slices_Compact_string g 0 cap1 (ss.mergeSort fun x y => decide (x ≤ y)) _ hH2 (by omega) (by have := X.out.2.2.2.2.1; omega)
         rw [hl2] at hcomp
         clear hH2 hsort)
      | (go_at_call 21; refine hcomp.mono ?_; rintro e w3 ⟨rfl, q, rfl⟩))
    go_ret
    obtain ⟨h1, h2⟩ := left_of (nn := nn) (q := q) (os := os) X.out.1 X.out.2.1 X.out.2.2.1 (Nat.le_trans X.out.2.2.1 (Nat.le_of_lt X.out.2.2.2.1)) X.out.2.2.2.2.2.2.1
    rw [hl2] at h1 h2
    rw [Hrow.out] at h1
    obtain ⟨G, h3, h4⟩ := own_strs (D := D) h1 (fun x hx => Hx.out x (sortN_mem hx))
    exact ⟨_, G, rfl, h3, h4, h2⟩
theorem own_take {w : World} {base e g n cap k : Nat} {xs : List Value} (h : w.ownsRow base e 1 (.slice (some ⟨g, 0, none⟩) n cap) n xs) (hk : k ≤ n) : w.ownsRow base e 1 (.slice (some ⟨g, 0, none⟩) k cap) k (xs.take k) := by
  obtain ⟨h1, h2⟩ := h
  rcases h2 with ⟨h0, _⟩ | ⟨g', cap', cur, hv, hg, hh, hn, hcap, hsz, htake⟩
  · cases h0
  · cases hv
    refine ⟨by rw [List.length_take]; omega, .inr ⟨g, cap, cur, rfl, hg, hh, by omega, hcap, hsz, ?_⟩⟩
    rw [← htake, List.take_take]
    congr 1
    omega
theorem step_rows {P : Program} {ops : Array Oper} {o : Oper} {a : Act} {w : World} {K : Act → World → Prop} {Q : Exit → Act → World → Prop} {E : Prop} (hg : o.guard = none) (s x : Operand) (t e : TypeId)
    (hop : o.op = .call { callee := .builtin .append, args := #[s, x], argTypes := #[t, t] }) (ht : P.underlying t = some (.slice e)) {z : Value} {size bytes : Nat}
    (hinfo : (P.info? e).map (fun i => (i.zero, i.size, i.bytes)) = some (some z, size, bytes)) (hzs : z.cells.size = size) (hsz : 0 < size) (base : Nat) (v : Value) (n : Nat) (xs : List Value)
    (hown : w.ownsRow base e size v n xs) (hs : a.eval s = v) (ad : Addr) (m c : Nat) (news : List Value) (hx : a.eval x = .slice (some ad) m c) (hl : news.length = m * size)
    (hnews : ∀ j u, news[j]? = some u → w.cell? (ad.add j) = some u) (h1 : ∀ u ∈ news, u.oneCell' = true) (hn : n + m ≤ 1099511627776) (hby : (n + m) * bytes ≤ 140737488355328) (hbase : base ≤ w.heap.size)
    (hK : ∀ v' w', w'.ownsRow base e size v' (n + m) (xs ++ news) → w.grownBy w' v.ownBlock → K (a.put o.dst v') w') :
    if Region.wanted o (yielded ops a.tmps) = true then Oper.wp P o a w K Q else E := by
  have hw : Region.wanted o (yielded ops a.tmps) = true := by simp [Region.wanted, hg]
  rw [if_pos hw]
  obtain ⟨i0, hi, hz0, hz1, hz2⟩ := info_parts hinfo
  exact wp_append_own w s x t hop base e i0 z size bytes ht hi hz0 hz1 hz2 hzs hsz v n xs hs hown ad m c news hx hl hnews h1 (by unfold maxLen; omega) hby hbase fun v' w' h2 h3 _ => hK v' w' h2 h3
/-- What is held over the last region: old memory. -/
def Kept (n : Nat) (V : World) (W : World) : Prop := Below n V W ∧ V.heap.size ≤ W.heap.size ∧ n ≤ V.heap.size
theorem Kept.drew {n : Nat} {V W : World} (h : Kept n V W) : Kept n V W.drew := ⟨h.1.drew, h.2.1, h.2.2⟩
theorem Kept.alloc {n : Nat} {V W : World} (o : Obj) (h : Kept n V W) : Kept n V (W.alloc o) :=
  ⟨h.1.alloc (Nat.le_trans h.2.2 h.2.1) o, by rw [World.size_alloc]; exact Nat.le_succ_of_le h.2.1, h.2.2⟩
theorem Kept.grown {n : Nat} {V W W' : World} {row : Option Nat} (h : Kept n V W) (hg : W.grownBy W' row) (hr : ∀ k, row = some k → n ≤ k) : Kept n V W' :=
  ⟨h.1.grown hg (Nat.le_trans h.2.2 h.2.1) hr, Nat.le_trans h.2.1 hg.size, h.2.2⟩
theorem Kept.room {n : Nat} {V W : World} (h : Kept n V W) : n ≤ W.heap.size := Nat.le_trans h.2.2 h.2.1
theorem add0 (g k : Nat) : (⟨g, 0, none⟩ : Addr).add k = ⟨g, k, none⟩ := by
  unfold Addr.add
  split
  · rename_i h; subst h; rfl
  · rw [Nat.zero_add]
theorem addk (g a k : Nat) : (⟨g, a, none⟩ : Addr).add k = ⟨g, a + k, none⟩ := by
  unfold Addr.add
  split
  · rename_i h; subst h; rfl
  · rfl
theorem new_cells (W : World) (ys : List Value) (e : TypeId) : ∀ j u, ys[j]? = some u → (W.alloc (.cells ys.toArray e)).cell? ((⟨W.heap.size, 0, none⟩ : Addr).add j) = some u := by
  intro j u hu
  have := CellsAt.new W ys e j u hu
  rw [Nat.zero_add] at this
  rw [add0]
  exact this
theorem new_cells_drew (W : World) (ys : List Value) (e : TypeId) : ∀ j u, ys[j]? = some u → (W.alloc (.cells ys.toArray e)).drew.cell? ((⟨W.heap.size, 0, none⟩ : Addr).add j) = some u := new_cells W ys e
theorem encStr_one {u : Value} {l : List Bs} (h : u ∈ l.map encStr) : u.oneCell' = true := by
  obtain ⟨y, _, rfl⟩ := List.mem_map.1 h
  rfl
theorem sort_step {xs : List ByteArray} {L : List Bs} {x : ByteArray} {j a m : Nat} {w2 : World} {base e : TypeId} {v2 : Value} {news : List Value} (hL : L = sortB ((xs.take j).map (·.data.toList))) (hx : xs[j]? = some x) (ha : a ≤ L.length)
    (hlow : ∀ k y, k < a → L[k]? = some y → y < x.data.toList) (hhigh : ∀ y, L[a]? = some y → ¬ y < x.data.toList ∧ y ≠ x.data.toList) (hn : news = (L.map encStr).drop a) (hm : m = L.length - a)
    (hown : w2.ownsRow base e 1 v2 (a + 1 + m) (((L.map encStr).take a ++ [.string x]) ++ news)) :
    ∃ (L' : List Bs) (g2 cp2 : Nat), v2 = .slice (some ⟨g2, 0, none⟩) L'.length cp2 ∧ L' = sortB ((xs.take (j + 1)).map (·.data.toList)) ∧ w2.ownsRow base e 1 v2 L'.length (L'.map encStr) := by
  have h1 : sortB ((xs.take (j + 1)).map (·.data.toList)) = L.take a ++ x.data.toList :: L.drop a := by
    have := sortB_take (l := xs.map (·.data.toList)) (j := j) (x := x.data.toList) (by rw [List.getElem?_map, hx]; rfl)
    rw [← List.map_take, ← List.map_take, ← hL] at this
    rw [this, ins_at x.data.toList L a ha hlow (fun y hy => (hhigh y hy).1), if_neg (fun h => (hhigh _ h).2 rfl)]
  have h2 : (L.take a ++ x.data.toList :: L.drop a).map encStr = ((L.map encStr).take a ++ [.string x]) ++ news := by
    subst hn
    simp [encStr, List.map_take, List.map_drop]
  have h3 : (L.take a ++ x.data.toList :: L.drop a).length = a + 1 + m := by
    simp
    omega
  rcases hown.2 with ⟨_, h0⟩ | ⟨g2, cp2, cur, hv, _⟩
  · omega
  · exact ⟨_, g2, cp2, by rw [h3]; exact hv, h1.symm, by rw [h2, h3]; exact hown⟩
set_option maxRecDepth 100000 in
set_option maxHeartbeats 2000000 in
theorem s_SortNames (D : Nat) (xs : List ByteArray) (v : Value) (F : List Nat) (w : World) (hs : SlR 1 (StrR D) w xs v F) (hn : xs.length ≤ 1048576) :
    Calls Try.prog 13 #[v] w fun en w' => ∃ u G, en = .returned u ∧ SlR 1 (StrR D) w' (sortN xs) u G ∧ Fresh w.heap.size w' G ∧ Below w.heap.size w w' := by
  obtain ⟨A, cap, rfl, _, _⟩ := hs.form
  obtain ⟨hr, hx⟩ := hs.strs
  have HF := hide (hs.lt (StrR.good D))
  have Hs := hide hs
  have Hx := hide hx
  have hlm : xs.length ≤ 9223372036854775807 := by omega
  obtain ⟨i0, hi, hz0, hz1, hz2⟩ := info_parts infoStr
  clear hs hr hx
  go_enter Try.func13, Try.ntmps13
  go_wp2_with fail
  go_loopw [3, 4] (fun o i wr => ∃ (j : Nat) (L : List Bs) (g cp : Nat), j ≤ xs.length ∧ i = .int .i64 j ∧ o = .slice (some ⟨g, 0, none⟩) L.length cp ∧ Hid (L = sortB ((xs.take j).map (·.data.toList)) ∧ wr.ownsRow w.heap.size 9 1 (.slice (some ⟨g, 0, none⟩) L.length cp) L.length (L.map encStr) ∧ Below w.heap.size w wr)) (fun _ i _ => xs.length - (intOf i).toNat)
  case atStart => exact ⟨0, [], w.heap.size, 0, by omega, rfl, rfl, hide ⟨rfl, ⟨rfl, .inr ⟨w.heap.size, 0, #[], rfl, Nat.le_refl _, heap_alloc_new w _, Nat.le_refl _, by simp [maxLen], rfl, rfl⟩⟩, (Below.refl _ _).alloc (Nat.le_refl _) _⟩⟩
  case round =>
    obtain ⟨j, L, g, cp, hj, rfl, rfl, HO⟩ := hrel
    obtain ⟨W1, hW1⟩ : ∃ W, W = wr := ⟨_, rfl⟩
    subst hW1
    have Hb : Hid (Below w.heap.size w W1) := hide HO.out.2.2
    have hll : L.length ≤ 1048576 := by
      have := sortB_len_le ((xs.take j).map (·.data.toList)) ((xs.take j).map (·.data.toList)).length 0 (by simp)
      rw [HO.out.1]
      simp [sortB] at this
      have h2 : (sortB ((xs.take j).map (·.data.toList))).length ≤ (xs.take j).length := by simpa [sortB] using this
      rw [List.length_take] at h2
      omega
    by_cases hlt : j < xs.length
    · have hx : xs[j]? = some xs[j] := List.getElem?_eq_getElem hlt
      generalize xs[j] = x at hx
      obtain ⟨b, off, cs, Fk, hA, _, hbF, hFk, hcl, hcat, hR⟩ := SlR.get (StrR.good D) (Hs.out.below (StrR.good D) Hb.out HF.out) hx
      subst hA
      obtain ⟨rfl, _, _⟩ := hR
      have e0 : W1.cell? ⟨b, off + j, none⟩ = some (.string x) := by
        have := hcat 0 _ rfl
        rwa [Nat.mul_one, Nat.add_zero] at this
      have hblt := HF.out b hbF
      have hj0 : (0 : Int) ≤ (j : Int) := by omega
      have hj1 : (j : Int) < (xs.length : Int) := by omega
      have HX := hide hx
      have hgb : w.heap.size ≤ g ∧ g < W1.heap.size := HO.out.2.1.lt g rfl
      have Hc : Hid (∀ (k : Nat) y, L[k]? = some y → W1.cell? ⟨g, k, none⟩ = some (.string ⟨y.toArray⟩)) := hide fun k y hk => by
        have hkl := (List.getElem?_eq_some_iff.1 hk).1
        rw [HO.out.2.1.cellAt k (by omega), List.getElem?_map, hk]
        rfl
      have ex : ∀ W : World, Below W1.heap.size W1 W → W.cell? ⟨b, off + j, none⟩ = some (.string x) := fun W h => (h.cell (p := ⟨b, off + j, none⟩) (cell_lt e0)).trans e0
      have Hbx := hide hblt
      clear hx hcat hFk hbF hcl hblt
      go_wp2_with fail
      go_loopw [5] (fun p wr2 => ∃ a : Nat, a ≤ L.length ∧ p = .int .i64 a ∧ Hid (∀ k y, k < a → L[k]? = some y → y < x.data.toList) ∧ Hid (Below W1.heap.size W1 wr2)) (fun p _ => L.length - (intOf p).toNat)
      case atStart => exact ⟨0, by omega, rfl, hide (fun k y hk => by omega), hide (Below.refl _ _)⟩
      case round =>
        obtain ⟨a, ha, rfl, Hlow, Hb2⟩ := hrel
        have hb2 := Hb2.out
        have ex2 := ex _ hb2
        have ha0 : (0 : Int) ≤ (a : Int) := by omega
        by_cases hal : a < L.length
        · have hy : L[a]? = some L[a] := List.getElem?_eq_getElem hal
          generalize L[a] = y at hy
          have ey : wr.cell? ⟨g, a, none⟩ = some (.string ⟨y.toArray⟩) := (hb2.cell (p := ⟨g, a, none⟩) hgb.2).trans (Hc.out a y hy)
          have hcmp : Op.bytesLess (⟨y.toArray⟩ : ByteArray).toList x.toList = decide (y < x.data.toList) := by
            rw [bytesLess_eq, Lib.toList_data, Lib.toList_data]
          have hzl : (⟨y.toArray⟩ : ByteArray).toList = y := by rw [Lib.toList_data]
          generalize (⟨y.toArray⟩ : ByteArray) = z at ey hcmp hzl
          have Hzl := hide hzl
          clear hzl
          have ha1 : (a : Int) < (L.length : Int) := by omega
          have Hy := hide hy
          clear hy
          by_cases hlow : y < x.data.toList
          · rw [decide_eq_true hlow] at hcmp
            go_wp2_with fail
            go_quiet (fail)
            go_wp2_with fail
            go_roundw
            case rel => exact ⟨a + 1, by omega, by go_num, hide (fun k u hk hu => by
              rcases Nat.lt_or_eq_of_le (Nat.le_of_lt_succ hk) with h | rfl
              · exact Hlow.out k u h hu
              · rw [Hy.out] at hu; injection hu with hu; exact hu ▸ hlow), hide (below_drewN hb2 _)⟩
            case measure => simp [intOf]; omega
          · rw [decide_eq_false hlow] at hcmp
            go_wp2_with fail
            go_quiet (fail)
            go_wp2_with fail
            by_cases heq : y = x.data.toList
            · have hcmq : (z.toList == x.toList) = true := by rw [Hzl.out, Lib.toList_data, heq]; simp
              go_quiet (fail)
              go_wp2_with fail
              go_roundw
              case rel =>
                have h1 : sortB ((xs.take (j + 1)).map (·.data.toList)) = L := by
                  have := sortB_take (l := xs.map (·.data.toList)) (j := j) (x := x.data.toList) (by rw [List.getElem?_map, HX.out]; rfl)
                  rw [← List.map_take, ← List.map_take, ← HO.out.1] at this
                  rw [this, ins_at x.data.toList L a ha Hlow.out (fun u hu => by rw [Hy.out] at hu; injection hu with hu; exact hu ▸ hlow), if_pos (by rw [Hy.out, heq])]
                exact ⟨j + 1, L, g, cp, by omega, by go_num, rfl, hide ⟨h1.symm, own_below HO.out.2.1 (below_drewN hb2 _), Hb.out.trans ((below_drewN hb2 _).mono (Nat.le_trans hgb.1 (Nat.le_of_lt hgb.2)))⟩⟩
              case measure => simp [intOf]; omega
            · have hcmq : (z.toList == x.toList) = false := by rw [Hzl.out, Lib.toList_data]; simp [heq]
              go_quiet (fail)
              have HB := fun q r => below_drewN (below_drewN hb2 q) r
              generalize hW2 : World.drewN (World.drewN wr _) _ = W2
              have HB2 : Below W1.heap.size W1 W2 := by rw [← hW2]; exact HB _ _
              clear hW2 HB
              have Ho2 := hide (own_below HO.out.2.1 HB2)
              have hlc : L.length ≤ cp := by
                rcases HO.out.2.1.2 with ⟨h0, _⟩ | ⟨_, _, _, h0, _, _, h1, _⟩ <;> cases h0
                exact h1
              have hca' : (cp = a) = False := eq_false (by omega)
              have hacp : (a : Int) ≤ (cp : Int) := by omega
              have HB3 : Hid (Below W1.heap.size W1 (W2.alloc (Obj.cells #[] 9))) := hide (HB2.alloc HB2.size _)
              obtain ⟨news, Hnews⟩ : ∃ n : List Value, Hid (n = (L.map encStr).drop a) := ⟨_, hide rfl⟩
              have Hnl : Hid (news.length = (L.length - a) * 1) := hide (by rw [Hnews.out]; simp)
              have Hn1 : Hid (∀ u ∈ news, u.oneCell' = true) := hide (fun u hu => by rw [Hnews.out] at hu; exact encStr_one (List.mem_of_mem_drop hu))
              have Hgw : Hid (g < W2.heap.size) := hide (Nat.lt_of_lt_of_le hgb.2 HB2.size)
              have Hne : Hid (∀ j u, news[j]? = some u → (W2.alloc (Obj.cells #[] 9)).cell? ((⟨g, a, none⟩ : Addr).add j) = some u) := hide fun j u hu => by
                rw [addk]
                refine (((Below.refl W2.heap.size W2).alloc (Nat.le_refl _) _).cell (p := ⟨g, a + j, none⟩) Hgw.out).trans ?_
                rw [Hnews.out, List.getElem?_drop] at hu
                have := (List.getElem?_eq_some_iff.1 hu).1
                rw [Ho2.out.cellAt (a + j) (by simp at this; omega)]
                exact hu
              have Hm0 : Hid ((W2.alloc (Obj.cells #[] 9)).ownsRow W2.heap.size 9 1 (.slice (some ⟨W2.heap.size, 0, none⟩) 0 0) 0 []) := hide (World.ownsRow_made W2 #[] 0 (Nat.le_refl _) (by simp [maxLen]) rfl)
              go_wp2_with (at_builtin; refine wpList_append_own _ rfl (.tmp 46) (.tmp 49) 22 rfl W2.heap.size 9 i0 (.string ByteArray.empty) 1 16 Try.underlying22 hi hz0 hz1 hz2 rfl (by decide) (.slice (some ⟨W2.heap.size, 0, none⟩) 0 0) 0 [] (by rfl) Hm0.out ⟨g, a, none⟩ (L.length - a) (cp - a) news (by rfl) Hnl.out Hne.out Hn1.out (by unfold maxLen; omega) (by omega) (by simp) ?_
                           intro v0 W4 hv0 hgr0 _
                           rw [Nat.zero_add, List.nil_append] at hv0
                           obtain ⟨r, cr, rfl, Hr0⟩ : ∃ r cr, v0 = .slice (some ⟨r, 0, none⟩) (L.length - a) cr ∧ Hid (W2.heap.size ≤ r ∧ r < W4.heap.size ∧ W4.ownsRow W2.heap.size 9 1 (.slice (some ⟨r, 0, none⟩) (L.length - a) cr) (L.length - a) news) := by
                             rcases hv0.2 with ⟨_, h0⟩ | ⟨r, cr, cur, hv, _⟩
                             · omega
                             · subst hv
                               exact ⟨r, cr, rfl, hide ⟨(hv0.lt r rfl).1, (hv0.lt r rfl).2, hv0⟩⟩
                           have HB4 : Below W1.heap.size W1 W4 := HB3.out.grown hgr0 HB3.out.size (fun k hk => by cases hk; exact HB2.size)
                           have Hr4 : Hid (r < W4.heap.size ∧ W1.heap.size ≤ r ∧ ∀ j u, news[j]? = some u → W4.cell? ⟨r, j, none⟩ = some u) := hide ⟨Hr0.out.2.1, Nat.le_trans HB2.size Hr0.out.1, fun j u hu => by
                             have := (List.getElem?_eq_some_iff.1 hu).1
                             rw [Hr0.out.2.2.cellAt j (by have := Hnl.out; omega)]
                             exact hu⟩
                           clear hv0 hgr0)
              have ex4 : ∀ W : World, Kept w.heap.size W1 W → W.cell? ⟨b, off + j, none⟩ = some (.string x) := fun W h => (h.1.cell (p := ⟨b, off + j, none⟩) Hbx.out).trans e0
              have HT : Hid (∀ o : Obj, (W4.alloc o).drew.ownsRow w.heap.size 9 1 (.slice (some ⟨g, 0, none⟩) a cp) a ((L.map encStr).take a)) := hide fun o => own_take (own_below HO.out.2.1 (HB4.alloc HB4.size o).drew) ha
              have HR : Hid (∀ (o : Obj) j u, news[j]? = some u → (W4.alloc o).drew.cell? ⟨r, j, none⟩ = some u) := hide fun o j u hu => (((Below.refl W4.heap.size W4).alloc (Nat.le_refl _) o).drew.cell (p := ⟨r, j, none⟩) Hr4.out.1).trans (Hr4.out.2.2 j u hu)
              have hgr : some r ≠ some g := fun h => by injection h with h; have := Hr4.out.2.1; omega
              have hK4 : Kept w.heap.size W1 W4 := ⟨HB4.mono (Nat.le_trans hgb.1 (Nat.le_of_lt hgb.2)), HB4.size, Nat.le_trans hgb.1 (Nat.le_of_lt hgb.2)⟩
              go_region_held3 (fun W => Kept w.heap.size W1 W) (first | assumption | exact Kept.drew (by assumption) | exact Kept.alloc _ (by assumption)) (first
                | ((
                    refine step_rows rfl (.tmp 53) (.tmp 58) 22 9 rfl Try.underlying22 infoStr rfl (by decide) w.heap.size (.slice (some ⟨g, 0, none⟩) a cp) a ((L.map encStr).take a) ?hownC ?hsC ⟨W4.heap.size, 0, none⟩ 1 1 [.string x] ?hxC rfl ?hnC ?h1C (by omega) (by omega) ?hbC ?hKC
                    case hsC => rfl
                    case hxC => rfl
                    case hownC => exact HT.out _
                    case hnC => exact new_cells_drew W4 [.string x] _
                    case h1C => (intro u hu; simp at hu; subst hu; rfl)
                    case hbC => exact Kept.room (by assumption)
                    intro v1 w1 hown1 hg1
                    have hK1 := Kept.grown (by assumption) hg1 (fun k hk => by cases hk; exact hgb.1)
                    have hr1 : ∀ j u, news[j]? = some u → w1.cell? ((⟨r, 0, none⟩ : Addr).add j) = some u := fun j u hu => by rw [add0]; exact hg1.cell (HR.out _ j u hu) hgr))
                | (refine step_rows rfl (.tmp 59) (.tmp 60) 22 9 rfl Try.underlying22 infoStr rfl (by decide) w.heap.size v1 (a + 1) _ hown1 (by rfl) ⟨r, 0, none⟩ (L.length - a) _ news (by rfl) Hnl.out hr1 Hn1.out (by omega) (by omega) (Kept.room hK1) ?_; intro v2 w2 hown2 hg2
                   have hK2 := Kept.grown hK1 hg2 (fun k hk => (hown1.lt k hk).1)))
              go_wp2_with fail
              go_roundw
              case rel =>
                obtain ⟨L', g2, cp2, rfl, h4, h5⟩ := sort_step HO.out.1 HX.out ha Hlow.out (fun u hu => by rw [Hy.out] at hu; injection hu with hu; exact hu ▸ ⟨hlow, heq⟩) Hnews.out rfl hown2
                exact ⟨j + 1, L', g2, cp2, by omega, by go_num, rfl, hide ⟨h4, h5, Hb.out.trans hK2.1⟩⟩
              case measure => simp [intOf]; omega
        · have hal' : a = L.length := by omega
          have hg : decide ((a : Int) < (L.length : Int)) = false := by simp; omega
          go_wp2_with fail
          go_quiet (fail)
          go_wp2_with fail
          go_quiet (fail)
          have HB := fun q r => below_drewN (below_drewN hb2 q) r
          generalize hW2 : World.drewN (World.drewN wr _) _ = W2
          have HB2 : Below W1.heap.size W1 W2 := by rw [← hW2]; exact HB _ _
          clear hW2 HB
          have Ho2 := hide (own_below HO.out.2.1 HB2)
          have hlc : L.length ≤ cp := by
            rcases HO.out.2.1.2 with ⟨h0, _⟩ | ⟨_, _, _, h0, _, _, h1, _⟩ <;> cases h0
            exact h1
          subst hal'
          have HB4 : Below W1.heap.size W1 (W2.alloc (Obj.cells #[] 9)) := HB2.alloc HB2.size _
          obtain ⟨news, Hnews⟩ : ∃ n : List Value, Hid (n = (L.map encStr).drop L.length) := ⟨_, hide rfl⟩
          have Hn0 : Hid (news = []) := hide (by rw [Hnews.out]; exact List.drop_of_length_le (by simp))
          have Hnl : Hid (news.length = 0 * 1) := hide (by rw [Hn0.out]; rfl)
          have Hn1 : Hid (∀ u ∈ news, u.oneCell' = true) := hide (fun u hu => by rw [Hn0.out] at hu; cases hu)
          have Hr4 : Hid (W2.heap.size < (W2.alloc (Obj.cells #[] 9)).heap.size ∧ W1.heap.size ≤ W2.heap.size ∧ ∀ j u, news[j]? = some u → (W2.alloc (Obj.cells #[] 9)).cell? ⟨W2.heap.size, j, none⟩ = some u) := hide ⟨by simp, HB2.size, fun j u hu => by rw [Hn0.out] at hu; cases hu⟩
          by_cases hca : cp = L.length
          · subst hca
            go_wp2_with (at_builtin; fail)
            generalize W2.alloc (Obj.cells #[] 9) = W4 at HB4 Hr4 ⊢
            generalize W2.heap.size = r at Hr4 ⊢
            have ex4 : ∀ W : World, Kept w.heap.size W1 W → W.cell? ⟨b, off + j, none⟩ = some (.string x) := fun W h => (h.1.cell (p := ⟨b, off + j, none⟩) Hbx.out).trans e0
            have HT : Hid (∀ o : Obj, (W4.alloc o).drew.ownsRow w.heap.size 9 1 (.slice (some ⟨g, 0, none⟩) L.length _) L.length ((L.map encStr).take L.length)) := hide fun o => own_take (own_below HO.out.2.1 (HB4.alloc HB4.size o).drew) ha
            have HR : Hid (∀ (o : Obj) j u, news[j]? = some u → (W4.alloc o).drew.cell? ⟨r, j, none⟩ = some u) := hide fun o j u hu => (((Below.refl W4.heap.size W4).alloc (Nat.le_refl _) o).drew.cell (p := ⟨r, j, none⟩) Hr4.out.1).trans (Hr4.out.2.2 j u hu)
            have hgr : some r ≠ some g := fun h => by injection h with h; have := Hr4.out.2.1; omega
            have hK4 : Kept w.heap.size W1 W4 := ⟨HB4.mono (Nat.le_trans hgb.1 (Nat.le_of_lt hgb.2)), HB4.size, Nat.le_trans hgb.1 (Nat.le_of_lt hgb.2)⟩
            go_region_held3 (fun W => Kept w.heap.size W1 W) (first | assumption | exact Kept.drew (by assumption) | exact Kept.alloc _ (by assumption)) (first
              | ((
                  refine step_rows rfl (.tmp 53) (.tmp 58) 22 9 rfl Try.underlying22 infoStr rfl (by decide) w.heap.size (.slice (some ⟨g, 0, none⟩) L.length L.length) L.length ((L.map encStr).take L.length) ?hown ?hs ⟨W4.heap.size, 0, none⟩ 1 1 [.string x] ?hx rfl ?hn ?h1 (by omega) (by omega) ?hb ?hK
                  case hs => rfl
                  case hx => rfl
                  case hown => exact HT.out _
                  case hn => exact new_cells_drew W4 [.string x] _
                  case h1 => (intro u hu; simp at hu; subst hu; rfl)
                  case hb => exact Kept.room (by assumption)
                  intro v1 w1 hown1 hg1
                  have hK1 := Kept.grown (by assumption) hg1 (fun k hk => by cases hk; exact hgb.1)
                  have hr1 : ∀ j u, news[j]? = some u → w1.cell? ((⟨r, 0, none⟩ : Addr).add j) = some u := fun j u hu => by rw [add0]; exact hg1.cell (HR.out _ j u hu) hgr))
              | (refine step_rows rfl (.tmp 59) (.tmp 60) 22 9 rfl Try.underlying22 infoStr rfl (by decide) w.heap.size v1 (L.length + 1) _ hown1 (by rfl) ⟨r, 0, none⟩ 0 _ news (by rfl) Hnl.out hr1 Hn1.out (by omega) (by omega) (Kept.room hK1) ?_; intro v2 w2 hown2 hg2
                 have hK2 := Kept.grown hK1 hg2 (fun k hk => (hown1.lt k hk).1)))
            go_wp2_with fail
            go_roundw
            case rel =>
              obtain ⟨L', g2, cp2, rfl, h4, h5⟩ := sort_step HO.out.1 HX.out ha Hlow.out (fun y hy => by simp at hy) Hnews.out (by simp) hown2
              exact ⟨j + 1, L', g2, cp2, by omega, by go_num, rfl, hide ⟨h4, h5, Hb.out.trans hK2.1⟩⟩
            case measure => simp [intOf]; omega
          · have hca' : (cp = L.length) = False := eq_false hca
            go_wp2_with (at_builtin; fail)
            generalize W2.alloc (Obj.cells #[] 9) = W4 at HB4 Hr4 ⊢
            generalize W2.heap.size = r at Hr4 ⊢
            have ex4 : ∀ W : World, Kept w.heap.size W1 W → W.cell? ⟨b, off + j, none⟩ = some (.string x) := fun W h => (h.1.cell (p := ⟨b, off + j, none⟩) Hbx.out).trans e0
            have HT : Hid (∀ o : Obj, (W4.alloc o).drew.ownsRow w.heap.size 9 1 (.slice (some ⟨g, 0, none⟩) L.length _) L.length ((L.map encStr).take L.length)) := hide fun o => own_take (own_below HO.out.2.1 (HB4.alloc HB4.size o).drew) ha
            have HR : Hid (∀ (o : Obj) j u, news[j]? = some u → (W4.alloc o).drew.cell? ⟨r, j, none⟩ = some u) := hide fun o j u hu => (((Below.refl W4.heap.size W4).alloc (Nat.le_refl _) o).drew.cell (p := ⟨r, j, none⟩) Hr4.out.1).trans (Hr4.out.2.2 j u hu)
            have hgr : some r ≠ some g := fun h => by injection h with h; have := Hr4.out.2.1; omega
            have hK4 : Kept w.heap.size W1 W4 := ⟨HB4.mono (Nat.le_trans hgb.1 (Nat.le_of_lt hgb.2)), HB4.size, Nat.le_trans hgb.1 (Nat.le_of_lt hgb.2)⟩
            go_region_held3 (fun W => Kept w.heap.size W1 W) (first | assumption | exact Kept.drew (by assumption) | exact Kept.alloc _ (by assumption)) (first
              | ((
                  refine step_rows rfl (.tmp 53) (.tmp 58) 22 9 rfl Try.underlying22 infoStr rfl (by decide) w.heap.size (.slice (some ⟨g, 0, none⟩) L.length cp) L.length ((L.map encStr).take L.length) ?hownB ?hsB ⟨W4.heap.size, 0, none⟩ 1 1 [.string x] ?hxB rfl ?hnB ?h1B (by omega) (by omega) ?hbB ?hKB
                  case hsB => rfl
                  case hxB => rfl
                  case hownB => exact HT.out _
                  case hnB => exact new_cells_drew W4 [.string x] _
                  case h1B => (intro u hu; simp at hu; subst hu; rfl)
                  case hbB => exact Kept.room (by assumption)
                  intro v1 w1 hown1 hg1
                  have hK1 := Kept.grown (by assumption) hg1 (fun k hk => by cases hk; exact hgb.1)
                  have hr1 : ∀ j u, news[j]? = some u → w1.cell? ((⟨r, 0, none⟩ : Addr).add j) = some u := fun j u hu => by rw [add0]; exact hg1.cell (HR.out _ j u hu) hgr))
              | (refine step_rows rfl (.tmp 59) (.tmp 60) 22 9 rfl Try.underlying22 infoStr rfl (by decide) w.heap.size v1 (L.length + 1) _ hown1 (by rfl) ⟨r, 0, none⟩ 0 _ news (by rfl) Hnl.out hr1 Hn1.out (by omega) (by omega) (Kept.room hK1) ?_; intro v2 w2 hown2 hg2
                 have hK2 := Kept.grown hK1 hg2 (fun k hk => (hown1.lt k hk).1)))
            go_wp2_with fail
            go_roundw
            case rel =>
              obtain ⟨L', g2, cp2, rfl, h4, h5⟩ := sort_step HO.out.1 HX.out ha Hlow.out (fun y hy => by simp at hy) Hnews.out (by simp) hown2
              exact ⟨j + 1, L', g2, cp2, by omega, by go_num, rfl, hide ⟨h4, h5, Hb.out.trans hK2.1⟩⟩
            case measure => simp [intOf]; omega
    · have hjl : j = xs.length := by omega
      subst hjl
      go_wp2_with fail
      go_ret
      obtain ⟨h1, h2, h3⟩ := HO.out
      rw [List.take_length] at h1
      rw [show L.map encStr = (sortN xs).map Value.string from by rw [h1, sortN_row]] at h2
      obtain ⟨G, h4, h5⟩ := own_strs (D := D) h2 (fun x hx => Hx.out x (sortN_mem hx))
      exact ⟨_, G, rfl, h4, h5, h3⟩
end Go.Proofs.Ytbhgadaphmaplaa
