/- Symbols as text: what the text is, and how long. Plain: no program. -/
import Derived.Test.YtilndebjnibgjaaDoorSymValI
namespace Go.Proofs.YtilndebjnibgjaaDoor
set_option maxRecDepth 100000
open Go.RowKit
set_option linter.unusedVariables false

def modeW (m : Int) : ByteArray := if m = 1 then ⟨#[105, 110, 104]⟩ else if m = 2 then ⟨#[115, 121, 110]⟩ else if m = 3 then ⟨#[99, 111, 108]⟩ else ⟨#[]⟩
def typeW (t : Int) : ByteArray := if t = 1 then ⟨#[110, 117, 109]⟩ else if t = 2 then ⟨#[115, 101, 116]⟩ else if t = 3 then ⟨#[98, 111, 111, 108]⟩ else if t = 4 then ⟨#[110, 111, 100, 101]⟩ else ⟨#[]⟩
theorem modeW_size (m : Int) : (modeW m).size ≤ 3 := by unfold modeW; (repeat' split) <;> decide
theorem typeW_size (t : Int) : (typeW t).size ≤ 4 := by unfold typeW; (repeat' split) <;> decide
def fmtA (a : Atr) : ByteArray := ⟨#[32]⟩ ++ a.name ++ ⟨#[58]⟩ ++ modeW a.mode ++ ⟨#[58]⟩ ++ typeW a.type ++ (if a.circ then ⟨#[33]⟩ else ⟨#[]⟩)
def symT (x : Sym) (j : Nat) : ByteArray := (x.attrs.take j).foldl (fun o a => o ++ fmtA a) (⟨#[115, 121, 109, 98, 111, 108, 32]⟩ ++ x.name)
theorem symT_next {x : Sym} {j : Nat} {y : Atr} (hx : x.attrs[j]? = some y) : symT x (j + 1) = symT x j ++ fmtA y := by
  unfold symT
  rw [take_snoc hx, List.foldl_append]
  rfl
def fmtSym (x : Sym) : ByteArray := if validY x then symT x x.attrs.length else ⟨#[]⟩
theorem nameV_size {s : ByteArray} (h : validN s = true) : s.size ≤ 8 := by
  unfold validN at h
  simp only [Bool.and_eq_true, decide_eq_true_eq] at h
  exact h.1.2
theorem vA_parts {a : Atr} (h : vA a = true) : a.name.size ≤ 8 ∧ 1 ≤ a.mode ∧ a.mode ≤ 3 ∧ 1 ≤ a.type ∧ a.type ≤ 4 := by
  unfold vA validA at h
  simp only [Bool.and_eq_true, decide_eq_true_eq] at h
  have hn : validN a.name = true := by simp_all
  have := nameV_size hn
  simp_all
theorem sz_l (l : List UInt8) : (⟨l.toArray⟩ : ByteArray).size = l.length := by simp [ByteArray.size]
theorem fmtA_size {a : Atr} (h : vA a = true) : (fmtA a).size ≤ 20 := by
  have h1 := (vA_parts h).1
  have h2 := modeW_size a.mode
  have h3 := typeW_size a.type
  unfold fmtA
  split
  all_goals try simp only [ByteArray.size_append, sz_l, List.length_cons, List.length_nil]
  all_goals omega
theorem fold_size {α : Type} {f : α → ByteArray} {k : Nat} : ∀ (l : List α) (o : ByteArray), (∀ x ∈ l, (f x).size ≤ k) → (l.foldl (fun o a => o ++ f a) o).size ≤ o.size + k * l.length
  | [], o, _ => by simp
  | a :: r, o, h => by
    have h1 := h a (by simp)
    have h2 := fold_size r (o ++ f a) fun x hx => h x (by simp [hx])
    rw [List.foldl_cons, List.length_cons, Nat.mul_add]
    rw [ByteArray.size_append] at h2
    omega
theorem symT_size {x : Sym} (hv : validY x = true) (j : Nat) : (symT x j).size ≤ 95 := by
  unfold validY at hv
  simp only [Bool.and_eq_true, decide_eq_true_eq] at hv
  have hn := nameV_size hv.2.1
  have h := fold_size (f := fmtA) (k := 20) (x.attrs.take j) (⟨#[115, 121, 109, 98, 111, 108, 32]⟩ ++ x.name) fun a ha => fmtA_size (List.all_eq_true.1 hv.1 a (List.mem_of_mem_take ha))
  have hl : (x.attrs.take j).length ≤ 4 := Nat.le_trans (List.length_take_le' _ _) hv.2.2.1
  have e : (⟨#[115, 121, 109, 98, 111, 108, 32]⟩ : ByteArray).size = 7 := rfl
  rw [ByteArray.size_append, e] at h
  unfold symT
  omega
theorem fmtSym_size (x : Sym) : (fmtSym x).size ≤ 95 := by
  unfold fmtSym
  split
  · exact symT_size (by assumption) _
  · decide
end Go.Proofs.YtilndebjnibgjaaDoor
