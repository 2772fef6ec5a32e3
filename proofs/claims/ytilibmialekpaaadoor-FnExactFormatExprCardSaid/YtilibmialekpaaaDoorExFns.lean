/- Expressions: levels, remote attributes. Conditions: none beyond that the expression can be read. -/
import Derived.Test.YtilibmialekpaaaDoorExCopy
namespace Go.Proofs.YtilibmialekpaaaDoor
set_option maxRecDepth 100000
open Go.RowKit Go.WideShapes

def lvN (n : Int) : Int := if n = 9 ∨ n = 10 then 1 else if n = 1 ∨ n = 2 ∨ n = 6 ∨ n = 8 then 2 else if n = 3 ∨ n = 7 then 3 else 4
def levH (h : ExH) : Int := if h.kind = 5 then 0 else if h.kind = 4 then lvN h.n else 4
set_option maxHeartbeats 800000 in
theorem s_LevelOf (d : Nat) (e : Ex) (cs : List Value) (F : List Nat) (w : World) (h : ExR d w e cs F) :
    Calls Tryd.prog 143 #[.agg cs.toArray] w fun en w' => en = .returned (.int .i64 (levH e.h)) ∧ Below w.heap.size w w' := by
  match d, h with
  | d + 1, h =>
  obtain ⟨A, cap, rfl, _, _, _, _⟩ := ex_form h
  obtain ⟨⟨k, n, p, t, s, m⟩, l⟩ := e
  show Calls _ _ #[.agg #[.int .i64 k, .int .i64 n, .int .i64 p, .int .i64 t, .string s, .string m, .slice A l.length cap]] w _
  generalize hq : levH (Ex.mk ⟨k, n, p, t, s, m⟩ l).h = q
  have Hq : Hid (levH ⟨k, n, p, t, s, m⟩ = q) := hide hq
  clear hq h
  go_enter Tryd.func143, Tryd.ntmps143
  go_wp2
  all_goals (go_ret; refine ⟨ret_int ?_, (Below.refl _ _).alloc (Nat.le_refl _) _⟩; rw [← Hq.out])
  all_goals (try simp only [beq_iff_eq, beq_eq_false_iff_ne, ne_eq] at *)
  all_goals (unfold levH lvN; simp only; (repeat' split) <;> first | rfl | omega)
set_option maxHeartbeats 800000 in
theorem i_LevelOf (d : Nat) (e : Ex) (cs : List Value) (F : List Nat) (w : World) (h : ExR d w e cs F) :
    Calls Tryd.prog 148 #[.agg cs.toArray] w fun en w' => en = .returned (.int .i64 (levH e.h)) ∧ Below w.heap.size w w' := by
  match d, h with
  | d + 1, h =>
  obtain ⟨A, cap, rfl, _, _, _, _⟩ := ex_form h
  obtain ⟨⟨k, n, p, t, s, m⟩, l⟩ := e
  show Calls _ _ #[.agg #[.int .i64 k, .int .i64 n, .int .i64 p, .int .i64 t, .string s, .string m, .slice A l.length cap]] w _
  generalize hq : levH (Ex.mk ⟨k, n, p, t, s, m⟩ l).h = q
  have Hq : Hid (levH ⟨k, n, p, t, s, m⟩ = q) := hide hq
  clear hq h
  go_enter Tryd.func148, Tryd.ntmps148
  go_wp2
  all_goals (go_ret; refine ⟨ret_int ?_, (Below.refl _ _).alloc (Nat.le_refl _) _⟩; rw [← Hq.out])
  all_goals (try simp only [beq_iff_eq, beq_eq_false_iff_ne, ne_eq] at *)
  all_goals (unfold levH lvN; simp only; (repeat' split) <;> first | rfl | omega)

/-- A node that fulfils something. -/
def anyE (P : Ex → Bool) : Nat → Ex → Bool
  | 0, _ => false
  | d + 1, e => e.args.any (anyE P d) || P e
theorem any_take_false {α : Type} {f : α → Bool} {xs : List α} {k : Nat} {x : α} (hx : xs[k]? = some x) (h : (xs.take k).any f = false) (hf : f x = false) : (xs.take (k + 1)).any f = false := by rw [take_snoc hx, List.any_append, h]; simp [hf]
theorem any_hit {α : Type} {f : α → Bool} {xs : List α} {k : Nat} {x : α} (hx : xs[k]? = some x) (hf : f x = true) : xs.any f = true := List.any_eq_true.2 ⟨x, List.mem_of_getElem? hx, hf⟩
def isRem (e : Ex) : Bool := e.h.kind == 8
/-- All nodes fulfil something. -/
def allE (P : Ex → Bool) : Nat → Ex → Bool
  | 0, _ => true
  | d + 1, e => P e && e.args.all (allE P d)
def notRem (e : Ex) : Bool := e.h.kind != 8
/-- Does every argument fulfil it? -1, or the index of one that does not. -/
def IdxOf_rem (l : List Ex) (d : Nat) (en : Ending) : Prop := (en = .returned (.int .i64 (-1)) ∧ l.all (allE notRem d) = true) ∨ ∃ r : Nat, en = .returned (.int .i64 r) ∧ l.all (allE notRem d) = false
theorem all_any (P Q : Ex → Bool) (hPQ : ∀ e, P e = !(Q e)) : ∀ d e, allE P d e = !(anyE Q d e)
  | 0, _ => rfl
  | d + 1, e => by
    simp only [allE, anyE]
    rw [hPQ e]
    have : e.args.all (allE P d) = !(e.args.any (anyE Q d)) := by
      rw [show allE P d = fun x => !(anyE Q d x) from funext (all_any P Q hPQ d)]
      simp [List.all_eq_not_any_not]
    rw [this]
    cases e.args.any (anyE Q d) <;> cases Q e <;> rfl
end Go.Proofs.YtilibmialekpaaaDoor
