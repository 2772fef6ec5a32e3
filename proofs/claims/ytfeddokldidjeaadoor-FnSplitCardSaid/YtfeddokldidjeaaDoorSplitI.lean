/- SplitByte: the program's. Conditions: at most 2^20 bytes; the world has the form that every start has. -/
import Derived.Test.YtfeddokldidjeaaDoorSplitB
namespace Go.Proofs.YtfeddokldidjeaaDoor
set_option maxRecDepth 100000
open Go.RowKit Go.Lib
set_option linter.unusedVariables false

theorem splitK_len (c : UInt8) : ∀ (n : Nat) (s : List UInt8), s.length ≤ n → (splitK [c] 0 (count s [c]) s).length = count s [c] + 1
  | n, s, hn => by
    rcases Int.lt_or_le (index s [c]) 0 with h | h
    · have h1 : index s [c] = -1 := by have := index_ge s [c]; omega
      rw [count_miss h1]
      rfl
    · obtain ⟨i, hi⟩ : ∃ i : Nat, index s [c] = i := ⟨(index s [c]).toNat, by omega⟩
      have hroom := index_room s [c] h
      rw [count_hit (by simp) hi, Nat.add_comm 1]
      have hne : ¬ (index s [c] == -1) = true := by rw [hi]; simp
      unfold splitK
      rw [if_neg hne, hi]
      simp only [List.length_cons, List.length_nil, Nat.zero_add, Int.toNat_natCast, Nat.add_zero] at *
      match n, hn with
      | 0, hn => omega
      | n + 1, hn => rw [splitK_len c n (s.drop (i + 1)) (by rw [List.length_drop]; omega)]
theorem splitS_len (s : ByteArray) (c : UInt8) : (splitS s c).length = countB s ⟨#[c]⟩ + 1 := by
  have h := splitK_len c _ s.data.toList (Nat.le_refl _)
  rw [splitK_eq c _ _ (Nat.le_refl _)] at h
  unfold splitS
  rw [List.length_map]
  exact h
theorem splitS_size (s : ByteArray) (c : UInt8) : ∀ x ∈ splitS s c, x.size ≤ s.size := fun x hx => by
  obtain ⟨l, hl, rfl⟩ := List.mem_map.1 hx
  have := splitL_mem c _ l hl
  rw [toB_size]
  rw [bytes_len] at this
  exact this
theorem splitS_le (s : ByteArray) (c : UInt8) : (splitS s c).length ≤ s.size + 1 := by
  have := splitL_len c s.data.toList
  rw [bytes_len] at this
  unfold splitS
  rwa [List.length_map]
theorem run_one (c : UInt8) (W : World) : (convert 34 9 (.slice (some ⟨W.heap.size, 0, none⟩) 1 1)).run Tryd.prog (W.alloc (.cells #[.int .u8 (c.toNat : Int)] 5)) =
    .ok (.string ⟨#[c]⟩) (W.alloc (.cells #[.int .u8 (c.toNat : Int)] 5)) :=
  run_convert_bytes_back (P := Tryd.prog) (W.alloc (.cells #[.int .u8 (c.toNat : Int)] 5)) 34 9 5 ⟨W.heap.size, 0, none⟩ 1 [c] Tryd.underlying34 Tryd.underlying5 Tryd.underlying9 (fun j hj => by
    have hj0 : j = 0 := by simpa using hj
    subst hj0
    show World.cell? _ ⟨W.heap.size, 0, none⟩ = _
    rw [cell_of_row _ _ 0 _ _ _ (heap_alloc_new W _)]
    rfl)
theorem shaped_below {P : Program} {w w' : World} (h : w.ShapedOpen P) (hb : Below w.heap.size w w') : w'.ShapedOpen P :=
  World.ShapedOpen.keptBut h (hb.frame (fun _ => False)) (fun _ h => h.elim)
set_option maxRecDepth 100000 in
theorem i_SplitByte (D : Nat) (s : ByteArray) (c : UInt8) (hs : s.size ≤ 1048576) (w : World) (hsh : w.ShapedOpen Tryd.prog) :
    Calls Tryd.prog 17 #[.string s, .int .u8 (c.toNat : Int)] w fun e w' => ∃ v' G, e = .returned v' ∧ SlR 1 (StrR D) w' (splitS s c) v' G ∧ Fresh w.heap.size w' G ∧ Below w.heap.size w w' := by
  have hconv := run_one c w
  have HB : Hid (Below w.heap.size w (w.alloc (.cells #[.int .u8 (c.toNat : Int)] 5))) := hide ((Below.refl _ _).alloc (Nat.le_refl _) _)
  have Hsh := hide (shaped_below hsh HB.out)
  have Hc := hide (Tryd.strings_Split_shaped s ⟨#[c]⟩ _ Hsh.out (by omega) (Nat.le_refl 1))
  have hbb := byte_lt c
  clear hsh
  go_enter Tryd.func17, Tryd.ntmps17
  go_wp2_with fail
  refine Calls.mono Hc.out ?_
  rintro en w' ⟨rfl, rfl⟩
  go_wp2_with fail
  go_ret
  have hl := splitS_len s c
  have hsz := splitS_size s c
  have hle := splitS_le s c
  rw [splitB_eq, ← hl]
  have hz := World.size_alloc w (Obj.cells #[.int .u8 (c.toNat : Int)] 5)
  generalize w.alloc (Obj.cells #[.int .u8 (c.toNat : Int)] 5) = W1 at HB hz ⊢
  have hB2 : Below W1.heap.size W1 (W1.alloc (.cells ((splitS s c).map Value.string).toArray 9)) := (Below.refl _ _).alloc (Nat.le_refl _) _
  have hnew := heap_alloc_new W1 (.cells ((splitS s c).map Value.string).toArray 9)
  refine ⟨_, [W1.heap.size], rfl, ⟨_, _, rfl, Nat.le_refl _, by unfold maxLen; omega, .inr ⟨W1.heap.size, 0, [], by rw [hz], by simp, rfl, ElR.of_strs (fun x hx => by have := hsz x hx; unfold maxLen; omega) (fun j u hu => ?_)⟩⟩, ⟨by simp, fun b hb => ?_, fun b hb => ?_⟩, HB.out.trans (hB2.mono HB.out.size)⟩
  · rw [cell_of_row _ _ _ _ _ _ hnew, Nat.zero_add]
    simpa using hu
  · have := HB.out.size
    simp at hb
    omega
  · simp at hb
    subst hb
    exact ⟨_, _, hnew⟩
end Go.Proofs.YtfeddokldidjeaaDoor
