/- Rows of ints that a call owns: read, written, copied. Plain: no program. -/
import Derived.Test.YtfbcipfionhhaaaHgtP
import Derived.Test.YtfbcipfionhhaaaBox
namespace Go.Proofs.Ytfbcipfionhhaaa
set_option maxRecDepth 100000
open Go.RowKit
set_option linter.unusedVariables false

def enc (v : Nat) : Value := .int .i64 (v : Int)
/-- A row of ints that the call owns. -/
def HRow (B : Nat) (w : World) (v : Value) (h : List Nat) : Prop := w.ownsRow B 3 1 v h.length (h.map enc)
theorem HRow.below {B : Nat} {w w' : World} {v : Value} {h : List Nat} (hr : HRow B w v h) (hb : Below w.heap.size w w') : HRow B w' v h := own_below hr hb
theorem HRow.mono {B C : Nat} {w : World} {v : Value} {h : List Nat} (hr : HRow B w v h) (hC : C ≤ B) : HRow C w v h := by
  obtain ⟨h1, h2⟩ := hr
  refine ⟨h1, ?_⟩
  rcases h2 with h2 | ⟨g, cap, cur, h3, h4, h5, h6⟩
  · exact .inl h2
  · exact .inr ⟨g, cap, cur, h3, Nat.le_trans hC h4, h5, h6⟩
/-- What is known of a row with an element. -/
theorem HRow.open_ {B : Nat} {w : World} {v : Value} {h : List Nat} (hr : HRow B w v h) (hn : 0 < h.length) :
    ∃ (g cap : Nat) (cur : Array Value), v = .slice (some ⟨g, 0, none⟩) h.length cap ∧ B ≤ g ∧ g < w.heap.size ∧ w.heap[g]? = some (.cells cur 3 (0, 0)) ∧ h.length ≤ cap ∧ cap ≤ maxLen ∧ cur.size = cap ∧ cur.toList.take h.length = h.map enc := by
  obtain ⟨h1, h2⟩ := hr
  rcases h2 with ⟨_, h2⟩ | ⟨g, cap, cur, h3, h4, h5, h6, h7, h8, h9⟩
  · omega
  · exact ⟨g, cap, cur, h3, h4, (Array.getElem?_eq_some_iff.1 h5).1, h5, h6, h7, by simpa using h8, by simpa using h9⟩
theorem HRow.rd {B : Nat} {w : World} {A : Option Addr} {n c : Nat} {h : List Nat} (hr : HRow B w (.slice A n c) h) : Rd w w.heap.size A h.length (h.map enc) := by
  refine ⟨by simp, fun hn => ?_⟩
  obtain ⟨g, cap, cur, h1, _, h2, h3, _, _, _, h4⟩ := HRow.open_ hr hn
  injection h1 with h1 _ _
  subst h1
  refine ⟨g, 0, rfl, h2, fun j u hu => ?_⟩
  rw [cell_of_row _ _ _ _ _ _ h3, Nat.zero_add]
  rw [← h4, List.getElem?_take] at hu
  split at hu
  · simpa using hu
  · cases hu
theorem HRow.len {B : Nat} {w : World} {A : Option Addr} {n c : Nat} {h : List Nat} (hr : HRow B w (.slice A n c) h) : n = h.length := by
  obtain ⟨h1, h2⟩ := hr
  rcases h2 with ⟨h2, h3⟩ | ⟨g, cap, cur, h3, _⟩
  · injection h2 with _ h2 _
    omega
  · injection h3 with _ h3 _
theorem HRow.form {B : Nat} {w : World} {v : Value} {h : List Nat} (hr : HRow B w v h) : ∃ A c, v = .slice A h.length c ∧ h.length ≤ c ∧ c ≤ maxLen := by
  obtain ⟨h1, h2⟩ := hr
  rcases h2 with ⟨rfl, h3⟩ | ⟨g, cap, cur, rfl, _, _, h4, h5, _⟩
  · exact ⟨none, 0, by rw [h3], by omega, by unfold maxLen; omega⟩
  · exact ⟨_, _, rfl, h4, h5⟩
theorem HRow.set {B g cap i u : Nat} {w w' : World} {cur : Array Value} {h : List Nat} (hr : HRow B w (.slice (some ⟨g, 0, none⟩) h.length cap) h) (hi : i < h.length)
    (hc : w.heap[g]? = some (.cells cur 3 (0, 0))) (hP : Put w g i [enc u] cur 3 w') : HRow B w' (.slice (some ⟨g, 0, none⟩) h.length cap) (h.set i u) := by
  obtain ⟨g', cap', cur', h1, hB, _, h3, h4, h5, h6, h7⟩ := HRow.open_ hr (by omega)
  injection h1 with h1 _ hcap
  injection h1 with h1
  injection h1 with h1 _ _
  subst h1 hcap
  rw [hc] at h3
  injection h3 with h3
  injection h3 with h3 _ _
  subst h3
  obtain ⟨cs', hb, hs, hout, hin⟩ := hP.blk
  unfold HRow
  rw [List.length_set]
  refine ⟨by simp, .inr ⟨g, cap, cs', rfl, hB, hb, h4, h5, by rw [hs, h6]; simp, ?_⟩⟩
  apply List.ext_getElem?
  intro j
  rw [Nat.mul_one, List.getElem?_take, List.getElem?_map, List.getElem?_set]
  have hj := congrArg (·[j]?) h7
  simp only [List.getElem?_take, List.getElem?_map, Array.getElem?_toList] at hj
  by_cases hji : i = j
  · subst hji
    have hh := hin 0 _ rfl
    rw [Nat.add_zero] at hh
    rw [if_pos hi, if_pos rfl, if_pos hi, Array.getElem?_toList, hh]
    rfl
  · rw [if_neg hji, Array.getElem?_toList, hout j (by simp; omega)]
    exact hj
/-- A row made of noughts. -/
theorem HRow.made {B n : Nat} {w : World} {v : Value} (h : w.ownsRow B 3 1 v n (madeCells #[.int .i64 0] (n * 1)).toList) : HRow B w v (List.replicate n 0) := by
  unfold HRow
  rw [List.length_replicate]
  have e : (madeCells #[.int .i64 0] (n * 1)).toList = (List.replicate n 0).map enc := by
    apply List.ext_getElem?
    intro j
    rw [List.map_replicate]
    unfold madeCells
    simp only [enc, List.getElem?_replicate, Nat.mul_one]
    simp [Nat.mod_one]
    by_cases hj : j < n
    · simp [hj]
    · simp [hj]
  rw [← e]
  exact h
/-- A whole row of ints appended to an empty row that was made last. -/
theorem app_row {P : Program} {ops : Array Oper} {rest : List Oper} {o : Oper} {a : Act} {Q : Exit → Act → World → Prop} (hgd : o.guard = none) (s x : Operand) (t : TypeId)
    (ho : o.op = .call { callee := .builtin .append, args := #[s, x], argTypes := #[t, t] }) (ht : P.underlying t = some (.slice 3)) {z : Value} {bytes : Nat}
    (hinfo : (P.info? 3).map (fun i => (i.zero, i.size, i.bytes)) = some (some z, 1, bytes)) (hzs : z.cells.size = 1)
    (W : World) (h : List Nat) (n g cap : Nat) (hl : h.length = n) (hr : ∀ j u, (h.map enc)[j]? = some u → W.cell? ⟨g, j, none⟩ = some u) (hs : a.eval s = .slice (some ⟨W.heap.size, 0, none⟩) 0 0) (hx : a.eval x = .slice (some ⟨g, 0, none⟩) n cap)
    (hn : n ≤ 1099511627776) (hby : n * bytes ≤ 140737488355328)
    (hK : ∀ v' w', HRow W.heap.size w' v' h → Below W.heap.size W w' → wpList P ops Q rest (a.put o.dst v') w') : wpList P ops Q (o :: rest) a (W.alloc (.cells #[] 3)) := by
  subst hl
  obtain ⟨i0, hi, hz0, hz1, hz2⟩ := info_parts hinfo
  have hmade : (W.alloc (.cells #[] 3)).ownsRow W.heap.size 3 1 (.slice (some ⟨W.heap.size, 0, none⟩) 0 0) 0 [] := World.ownsRow_made W #[] 0 (Nat.le_refl _) (by simp [maxLen]) (by simp)
  have hcells : ∀ j u, (h.map enc)[j]? = some u → (W.alloc (.cells #[] 3)).cell? ((⟨g, 0, none⟩ : Addr).add j) = some u := fun j u hu => by
    have e1 : (⟨g, 0, none⟩ : Addr).add j = ⟨g, j, none⟩ := by
      unfold Addr.add
      split
      · rename_i h0; subst h0; rfl
      · simp
    have hc := hr j u hu
    have hl := cell_lt hc
    rw [e1]
    exact (((Below.refl W.heap.size W).alloc (Nat.le_refl _) _).cell (p := ⟨g, j, none⟩) hl).trans hc
  refine wpList_append_own _ hgd s x t ho W.heap.size 3 i0 z 1 bytes ht hi hz0 hz1 hz2 hzs (by decide) _ 0 [] hs hmade ⟨g, 0, none⟩ h.length cap (h.map enc) hx (by simp) hcells (fun u hu => by obtain ⟨k, _, rfl⟩ := List.mem_map.1 hu; rfl) (by unfold maxLen; omega) (by rw [Nat.zero_add]; exact hby) (by simp) ?_
  intro v' w' h2 h3 _
  rw [Nat.zero_add, List.nil_append] at h2
  exact hK v' w' h2 (((Below.refl W.heap.size W).alloc (Nat.le_refl _) _).grown h3 (by simp) (fun k hk => by simp only [Value.ownBlock, Option.some.injEq] at hk; omega))
def atI (g : Grm) (s : ByteArray) : Int := match symIdx g s with
  | some i => (i : Int)
  | none => -1
theorem atI_hit {g : Grm} {s : ByteArray} {j : Nat} (h : symIdx g s = some j) : atI g s = j := by unfold atI; rw [h]
theorem atI_no {g : Grm} {s : ByteArray} (h : symIdx g s = none) : atI g s = -1 := by unfold atI; rw [h]
theorem hOf_hit {g : Grm} {h : List Nat} {s : ByteArray} {j v : Nat} (hi : symIdx g s = some j) (hv : h[j]? = some v) : hOf g h s = v := by unfold hOf; rw [hi]; simp [List.getD, hv]
theorem hOf_no {g : Grm} {h : List Nat} {s : ByteArray} (hi : symIdx g s = none) : hOf g h s = 0 := by unfold hOf; rw [hi]
end Go.Proofs.Ytfbcipfionhhaaa
