/- A text split at a byte: both sides. Conditions: at most 2^20 bytes; the program's: the world has the form that every start has. -/
import Derived.Test.YtilndebjnibgjaaDoorShelf
import Derived.Test.YtilndebjnibgjaaDoorOwn
import Derived.Test.YtilndebjnibgjaaDoorInfo
import Derived.Test.YtilndebjnibgjaaDoorStrSl
import Derived.Lib.IndexBytes
import Derived.Lib.CountLaws
import Derived.Lib.Split
import Derived.Laws.IdiomStrings
namespace Go.Proofs.YtilndebjnibgjaaDoor
set_option maxRecDepth 100000
open Go.RowKit Go.Lib
set_option linter.unusedVariables false

def glue (p : List UInt8) : List (List UInt8) → List (List UInt8)
  | [] => [p]
  | h :: t => (p ++ h) :: t
def splitL : List UInt8 → UInt8 → List (List UInt8)
  | [], _ => [[]]
  | b :: r, c => if b = c then [] :: splitL r c else glue [b] (splitL r c)
theorem glue_nil {x : List (List UInt8)} (h : x ≠ []) : glue [] x = x := by
  cases x with
  | nil => exact absurd rfl h
  | cons a r => rfl
theorem glue_glue (p q : List UInt8) : ∀ x, x ≠ [] → glue p (glue q x) = glue (p ++ q) x
  | [], h => absurd rfl h
  | a :: r, _ => by simp [glue]
theorem splitL_ne (c : UInt8) : ∀ l, splitL l c ≠ []
  | [] => by simp [splitL]
  | b :: r => by
    unfold splitL
    split
    · simp
    · cases splitL r c <;> simp [glue]
theorem splitL_len (c : UInt8) : ∀ l : List UInt8, (splitL l c).length ≤ l.length + 1
  | [] => by simp [splitL]
  | b :: r => by
    have h := splitL_len c r
    have hn := splitL_ne c r
    unfold splitL
    split
    · simp only [List.length_cons]; omega
    · cases hs : splitL r c with
      | nil => exact absurd hs hn
      | cons a t => rw [hs] at h; simp only [glue, List.length_cons] at *; omega
theorem splitL_mem (c : UInt8) : ∀ l : List UInt8, ∀ x ∈ splitL l c, x.length ≤ l.length
  | [], x, hx => by simp [splitL] at hx; subst hx; simp
  | b :: r, x, hx => by
    unfold splitL at hx
    split at hx
    · rcases List.mem_cons.1 hx with rfl | hx
      · simp
      · have := splitL_mem c r x hx; simp only [List.length_cons]; omega
    · cases hs : splitL r c with
      | nil => exact absurd hs (splitL_ne c r)
      | cons a t =>
        rw [hs] at hx
        have ha := splitL_mem c r a (by rw [hs]; simp)
        rcases List.mem_cons.1 hx with rfl | hx
        · simp only [List.length_append, List.length_cons, List.length_nil]; omega
        · have := splitL_mem c r x (by rw [hs]; simp [hx]); simp only [List.length_cons]; omega
theorem splitL_miss {c : UInt8} : ∀ {s : List UInt8}, indexByte s c = -1 → splitL s c = [s]
  | [], _ => rfl
  | b :: r, h => by
    unfold indexByte at h
    split at h
    · cases h
    · rename_i hb
      have hr : indexByte r c = -1 := by
        split at h
        · rename_i h2; exact beq_iff_eq.1 h2
        · have := index_ge r [c]; rw [index_one] at this; omega
      unfold splitL
      rw [if_neg (by simpa using hb), splitL_miss hr]
      rfl
theorem splitL_hit {c : UInt8} : ∀ {s : List UInt8} {i : Nat}, indexByte s c = i → splitL s c = s.take i :: splitL (s.drop (i + 1)) c
  | [], i, h => by simp [indexByte] at h
  | b :: r, i, h => by
    unfold indexByte at h
    split at h
    · rename_i hb
      obtain rfl : i = 0 := by omega
      show (if b = c then [] :: splitL r c else glue [b] (splitL r c)) = _
      rw [if_pos (by simpa using hb)]
      rfl
    · rename_i hb
      split at h
      · omega
      · rename_i h2
        obtain ⟨k, hk⟩ : ∃ k : Nat, indexByte r c = k := ⟨(indexByte r c).toNat, by have := index_ge r [c]; rw [index_one] at this; simp at h2; omega⟩
        rw [hk] at h
        obtain rfl : i = k + 1 := by omega
        have := splitL_hit hk
        conv => lhs; unfold splitL
        rw [if_neg (by simpa using hb), this]
        rfl
theorem splitK_eq (c : UInt8) : ∀ (n : Nat) (s : List UInt8), s.length ≤ n → splitK [c] 0 (count s [c]) s = splitL s c
  | n, s, hn => by
    rcases Int.lt_or_le (index s [c]) 0 with h | h
    · have h1 : index s [c] = -1 := by have := index_ge s [c]; omega
      rw [count_miss h1, splitL_miss (by rw [← index_one]; exact h1)]
      rfl
    · obtain ⟨i, hi⟩ : ∃ i : Nat, index s [c] = i := ⟨(index s [c]).toNat, by omega⟩
      have hroom := index_room s [c] h
      rw [count_hit (by simp) hi, splitL_hit (by rw [← index_one]; exact hi), Nat.add_comm 1]
      have hne : ¬ (index s [c] == -1) = true := by rw [hi]; simp
      unfold splitK
      rw [if_neg hne, hi]
      simp only [List.length_cons, List.length_nil, Nat.zero_add, Int.toNat_natCast, Nat.add_zero] at *
      match n, hn with
      | 0, hn => omega
      | n + 1, hn => rw [splitK_eq c n (s.drop (i + 1)) (by rw [List.length_drop]; omega)]
def toB (l : List UInt8) : ByteArray := ⟨l.toArray⟩
def splitS (s : ByteArray) (c : UInt8) : List ByteArray := (splitL s.data.toList c).map toB
theorem splitB_eq (s : ByteArray) (c : UInt8) : splitB ⟨#[c]⟩ 0 (countB s ⟨#[c]⟩) s = splitS s c := by
  have h1 := splitB_data ⟨#[c]⟩ 0 (countB s ⟨#[c]⟩) s
  have h2 : splitK [c] 0 (countB s ⟨#[c]⟩) s.data.toList = splitL s.data.toList c := splitK_eq c _ _ (Nat.le_refl _)
  unfold splitS
  rw [← h2, ← show (⟨#[c]⟩ : ByteArray).data.toList = [c] from rfl, ← h1, List.map_map]
  conv => lhs; rw [← List.map_id (splitB ⟨#[c]⟩ 0 (countB s ⟨#[c]⟩) s)]
  apply List.map_congr_left
  intro x _
  rfl
end Go.Proofs.YtilndebjnibgjaaDoor
