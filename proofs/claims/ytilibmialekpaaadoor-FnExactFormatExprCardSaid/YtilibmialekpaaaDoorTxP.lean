/- Expressions as text: what the text is, and how long. Plain: no program. -/
import Derived.Test.YtilibmialekpaaaDoorFmtT
import Derived.Test.YtilibmialekpaaaDoorValid
namespace Go.Proofs.YtilibmialekpaaaDoor
set_option maxRecDepth 100000
open Go.RowKit Go.Lib
set_option linter.unusedVariables false

def opWs : List ByteArray := [⟨#[43]⟩, ⟨#[45]⟩, ⟨#[42]⟩, ⟨#[109, 97, 120]⟩, ⟨#[109, 105, 110]⟩, ⟨#[124]⟩, ⟨#[38]⟩, ⟨#[92]⟩, ⟨#[60]⟩, ⟨#[61, 61]⟩, ⟨#[104, 97, 115]⟩, ⟨#[119, 105, 116, 104]⟩]
def opW (n : Int) : ByteArray := opWs.getD (n.toNat - 1) ⟨#[]⟩
theorem opW_size (n : Int) : (opW n).size ≤ 4 := by
  unfold opW
  have h : ∀ x ∈ opWs, x.size ≤ 4 := by decide
  by_cases hk : n.toNat - 1 < opWs.length
  · rw [List.getD_eq_getElem?_getD, List.getElem?_eq_getElem hk]
    exact h _ (List.getElem_mem hk)
  · rw [List.getD_eq_getElem?_getD, List.getElem?_eq_none (by omega)]
    decide
/-- An operand: in brackets if its level is too low. -/
def atL (lv need : Int) (t : ByteArray) : ByteArray := if lv < need then ⟨#[40]⟩ ++ t ++ ⟨#[41]⟩ else t
theorem atL_size (lv need : Int) (t : ByteArray) : (atL lv need t).size ≤ t.size + 2 := by
  unfold atL
  split
  · simp only [ByteArray.size_append]
    show 1 + t.size + 1 ≤ _
    omega
  · omega
def txOp (n : Int) (t0 t1 : ByteArray) (l0 l1 : Int) : ByteArray :=
  if lvN n = 4 then opW n ++ ⟨#[40]⟩ ++ t0 ++ ⟨#[44, 32]⟩ ++ t1 ++ ⟨#[41]⟩ else atL l0 (max (lvN n) 2) t0 ++ ⟨#[32]⟩ ++ opW n ++ ⟨#[32]⟩ ++ atL l1 (lvN n + 1) t1
def txH (h : ExH) (t0 t1 t2 : ByteArray) (l0 l1 : Int) : ByteArray :=
  if h.kind = 1 then fmtTyped h.n h.type
  else if h.kind = 2 then ⟨#[108, 105, 116]⟩
  else if h.kind = 3 then ⟨#[36]⟩ ++ num h.pos ++ ⟨#[46]⟩ ++ h.name
  else if h.kind = 5 then ⟨#[105, 102, 32]⟩ ++ t0 ++ ⟨#[32, 116, 104, 101, 110, 32]⟩ ++ t1 ++ ⟨#[32, 101, 108, 115, 101, 32]⟩ ++ t2
  else if h.kind = 6 then ⟨#[115, 101, 108, 102, 40]⟩ ++ num h.pos ++ ⟨#[41]⟩
  else if h.kind = 7 then ⟨#[110, 111, 110, 101]⟩
  else if h.kind = 8 then h.symbol ++ ⟨#[46]⟩ ++ h.name ++ ⟨#[32, 111, 102, 32]⟩ ++ atL l0 4 t0
  else txOp h.n t0 t1 l0 l1
def argT (f : Ex → ByteArray) (l : List Ex) (i : Nat) : ByteArray := (l[i]?).elim ⟨#[]⟩ f
def argV (l : List Ex) (i : Nat) : Int := (l[i]?).elim 0 fun e => levH e.h
def txE : Nat → Ex → ByteArray
  | 0, _ => ⟨#[]⟩
  | d + 1, e => txH e.h (argT (txE d) e.args 0) (argT (txE d) e.args 1) (argT (txE d) e.args 2) (argV e.args 0) (argV e.args 1)
theorem sz_lit (a : Array UInt8) : (⟨a⟩ : ByteArray).size = a.size := rfl
theorem joinL_le (xs : List ByteArray) (s : ByteArray) : ((joinL xs s).length : Int) ≤ bulkS xs + s.size * xs.length := by
  cases xs with
  | nil => simp [joinL_nil, bulkS]
  | cons y r =>
    have e : s.data.toList.length = s.size := by rw [Array.length_toList]; rfl
    have h1 := lens_bulk (y :: r)
    have h2 := Lib.join_length y.data.toList (r.map (·.data.toList)) s.data.toList
    unfold joinL
    simp only [List.map_cons] at h1 ⊢
    rw [h2, e, List.length_map]
    have h3 : (s.size : Int) * ((y :: r).length : Int) = (s.size : Int) * (r.length : Int) + s.size := by simp [Int.mul_add]
    have h4 : ((s.size * r.length : Nat) : Int) = (s.size : Int) * (r.length : Int) := by simp
    omega
theorem fmtT_size {v k : Int} (h0 : -9223372036854775808 ≤ v) (h1 : v ≤ 9223372036854775807) : (fmtTyped v k).size ≤ 300 := by
  unfold fmtTyped
  have hn := num_size h0 h1
  have hj := joinL_le (wordsT v 12) sp1
  have hb := words_bulk v
  have hl := wordsT_len v 12
  have hs : ((sp1.size : Nat) : Int) = 1 := rfl
  rw [hs, Int.one_mul] at hj
  have hj' : (⟨(joinL (wordsT v 12) sp1).toArray⟩ : ByteArray).size = (joinL (wordsT v 12) sp1).length := by simp [ByteArray.size]
  generalize (⟨(joinL (wordsT v 12) sp1).toArray⟩ : ByteArray) = J at hj'
  generalize num v = N at hn
  repeat' split
  all_goals try simp only [ByteArray.size_append, sz_lit, List.size_toArray, List.length_cons, List.length_nil]
  all_goals omega
theorem validN_size {s : ByteArray} (h : validN s = true) : s.size ≤ 8 := by
  unfold validN at h
  simp only [Bool.and_eq_true, decide_eq_true_eq] at h
  exact h.1.2
theorem argT_sum (f : Ex → ByteArray) (l : List Ex) : ((argT f l 0).size : Int) + (argT f l 1).size + (argT f l 2).size ≤ sumBy (fun e => ((f e).size : Int)) l := by
  have hz : ∀ r : List Ex, 0 ≤ sumBy (fun e => ((f e).size : Int)) r := sumBy_nonneg fun e => by omega
  have e0 : (⟨#[]⟩ : ByteArray).size = 0 := rfl
  match l with
  | [] => simp [argT, sumBy, e0]
  | [a] => simp [argT, sumBy, e0]
  | [a, b] => simp [argT, sumBy, e0]
  | a :: b :: c :: r =>
    have := hz r
    simp [argT, sumBy]
    omega
theorem sum_mono {α : Type} {f g : α → Int} : ∀ {l : List α}, (∀ x ∈ l, f x ≤ g x) → sumBy f l ≤ sumBy g l
  | [], _ => Int.le_refl _
  | a :: r, h => by
    have h1 := h a (by simp)
    have h2 := sum_mono (l := r) fun x hx => h x (by simp [hx])
    simp only [sumBy]
    omega
theorem sum_mul {α : Type} (K : Int) (f : α → Int) : ∀ l : List α, sumBy (fun x => K * f x) l = K * sumBy f l
  | [] => by simp [sumBy]
  | a :: r => by simp only [sumBy]; rw [sum_mul K f r, Int.mul_add]
/-- What one node adds. -/
theorem txH_size {h : ExH} (hk : h.ok) (t0 t1 t2 : ByteArray) (l0 l1 : Int) {a : Nat} (hn : nodeB h.kind h.n h.pos h.type h.symbol h.name a = true) : (txH h t0 t1 t2 l0 l1).size ≤ 400 + t0.size + t1.size + t2.size := by
  obtain ⟨n0, n1⟩ := wf_i64 hk.n
  obtain ⟨p0, p1⟩ := wf_i64 hk.pos
  have hN := num_size p0 p1
  have hF := fmtT_size (k := h.type) n0 n1
  have hw := opW_size h.n
  have a1 := atL_size l0 4 t0
  have a2 := atL_size l0 (max (lvN h.n) 2) t0
  have a3 := atL_size l1 (lvN h.n + 1) t1
  have hm : h.kind = 3 ∨ h.kind = 8 → h.name.size ≤ 8 := by
    intro hc
    unfold nodeB at hn
    rcases hc with hc | hc
    · simp [hc] at hn
      exact validN_size hn.2
    · simp [hc] at hn
      exact validN_size hn.2
  have hs : h.kind = 8 → h.symbol.size ≤ 8 := by
    intro hc
    unfold nodeB at hn
    simp [hc] at hn
    exact validN_size hn.1.2
  unfold txH txOp
  repeat' split
  all_goals try simp only [ByteArray.size_append, sz_lit, List.size_toArray, List.length_cons, List.length_nil]
  all_goals (first | omega | (have := hm (by omega); omega) | (have := hm (by omega); have := hs (by omega); omega))
theorem tx_size {w : World} : ∀ (d : Nat) (e : Ex) (cs : List Value) (F : List Nat), ExR d w e cs F → allE okN d e = true → ((txE d e).size : Int) ≤ 400 * cntE d e
  | 0, _, _, _, h, _ => h.elim
  | d + 1, e, cs, F, h, hv => by
    obtain ⟨A, cap, rfl, hok, hl, hm, hs⟩ := ex_form h
    have hv' : (okN e && e.args.all (allE okN d)) = true := hv
    rw [Bool.and_eq_true] at hv'
    have h1 := txH_size hok (argT (txE d) e.args 0) (argT (txE d) e.args 1) (argT (txE d) e.args 2) (argV e.args 0) (argV e.args 1) hv'.1
    have h2 := argT_sum (txE d) e.args
    have h3 : sumBy (fun x => ((txE d x).size : Int)) e.args ≤ sumBy (fun x => 400 * cntE d x) e.args := sum_mono fun x hx => by
      obtain ⟨j, hj⟩ := List.mem_iff_getElem?.1 hx
      obtain ⟨b, off, cs, Fk, _, _, _, _, _, _, hR⟩ := SlR.get (ExR.good d) hs hj
      exact tx_size d x cs Fk hR (List.all_eq_true.1 hv'.2 x hx)
    rw [sum_mul] at h3
    have h4 : ((txE (d + 1) e).size : Int) = ((txH e.h (argT (txE d) e.args 0) (argT (txE d) e.args 1) (argT (txE d) e.args 2) (argV e.args 0) (argV e.args 1)).size : Int) := rfl
    simp only [cntE]
    omega
/-- A valid expression's text is short. -/
theorem tx_short {w : World} {d : Nat} {e : Ex} {cs : List Value} {F : List Nat} (h : ExR d w e cs F) (hv : allE okN d e = true) (hc : cntE d e ≤ 24) : (txE d e).size ≤ 9600 := by
  have := tx_size d e cs F h hv
  omega
end Go.Proofs.YtilibmialekpaaaDoor
