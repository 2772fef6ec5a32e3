/- The law FnSymbols: what it needs of symbols and their lines. Plain but for the comparison of attributes. -/
import Derived.Test.YtilndebjnibgjaaDoorSymC
import Derived.Test.YtilndebjnibgjaaDoorSymPv
import Derived.Test.YtilndebjnibgjaaDoorSymPt
import Derived.Test.YtilndebjnibgjaaDoorVars
import Derived.Laws.StructEq
namespace Go.Proofs.YtilndebjnibgjaaDoor
set_option maxRecDepth 100000
open Go.RowKit Go.WideShapes Go.Lib
set_option linter.unusedVariables false

theorem parseY_len (line : ByteArray) : (parseY line).2 = true → (parseY line).1.attrs.length ≤ 4 := fun h => validY_attrs (parseY_true h).1
theorem updK {l : Nat → Bool} {i j : Nat} (h : l j = false) (hj : j ≠ i) : updL l i j = false := by
  unfold updL
  rw [h, show (j == i) = false from beq_eq_false_iff_ne.2 hj]
  rfl
/-- A struct loaded whole inside a region that draws its order. -/
theorem step_load {P : Program} {ops : Array Oper} {o : Oper} {a : Act} {w : World} {K : Act → World → Prop} {Q : Exit → Act → World → Prop} {E : Prop} (hgd : o.guard = none) (ty : TypeId) (x : Operand) (ho : o.op = .load ty x)
    {d : TypeDesc} (hu : P.underlying ty = some d) (hd : (match d with | .struct _ | .array _ _ => true | _ => false) = true)
    {b off n : Nat} {cs : List Value} (hi : (P.info? ty).map (·.size) = some n) (hx : a.eval x = .pointer (some ⟨b, off, none⟩)) (hn : cs.length = n) (hc : CellsAt w b off cs)
    (h : K (a.put o.dst (.agg cs.toArray)) w) : if Region.wanted o (yielded ops a.tmps) = true then Oper.wp P o a w K Q else E := by
  have hw : Region.wanted o (yielded ops a.tmps) = true := by simp [Region.wanted, hgd]
  rw [if_pos hw]
  subst hn
  unfold Oper.wp execOp
  simp only [ho, hx, Instr.loadAt, Instr.sureAddr, Sem.run_bind, Sem.run_pure, Result.andThen_ok, run_loadVar_at hu hd hi hc]
  exact h
/-- An element of a symbol's row: where its cells lie. -/
theorem sym_at {w : World} {x : Sym} {A : Option Addr} {cap : Nat} {F : List Nat} (h : SymR 0 w x [.string x.name, .slice A x.attrs.length cap] F) {j : Nat} {a : Atr} (hj : x.attrs[j]? = some a) :
    ∃ be off, A = some ⟨be, off, none⟩ ∧ be < w.heap.size ∧ w.cell? ⟨be, off + j * 4, none⟩ = some (.string a.name) ∧ CellsAt w be (off + j * 4) [.string a.name, .int .i64 a.type, .int .i64 a.mode, .bool a.circ] := by
  have hl := (SymR.good 0).lt h
  obtain ⟨v1, F1, _, _, _, ⟨h1, g1⟩, rfl⟩ := h
  obtain rfl := Option.some.inj h1
  obtain ⟨be, off, cs, Fk, rfl, hbl, hbF, _, hcl, hcat, hR⟩ := SlR.get (AtrR.good 0) g1 hj
  obtain ⟨e0, e1, e2, e3, rfl⟩ := list4 hcl
  obtain rfl := Option.some.inj hR.2.2.1
  obtain rfl := Option.some.inj hR.2.2.2.1
  obtain rfl := Option.some.inj hR.2.2.2.2.1
  obtain rfl := Option.some.inj hR.2.2.2.2.2.1
  exact ⟨be, off, rfl, hl be hbF, hcat 0 _ rfl, hcat⟩
theorem parseY_bad {x : Sym} (h : validY x = false) : parseY (fmtSym x) = (zeroY, false) := by
  rw [fmt_bad h]
  exact parseY_few (by decide)
theorem run_eqAtr (s s' : ByteArray) (t t' m m' : Int) (c c' : Bool) (W : World) : (Op.equalIn 10000 33 (.agg #[.string s, .int .i64 t, .int .i64 m, .bool c]) (.agg #[.string s', .int .i64 t', .int .i64 m', .bool c'])).run Tryd.prog W = .ok ((s.toList == s'.toList) && ((t == t') && ((m == m') && (c == c')))) W := by
  have E1 : ∀ W : World, (Op.equalIn 9999 9 (.string s) (.string s')).run Tryd.prog W = .ok (s.toList == s'.toList) W := fun W => run_equalIn_string W 9998 _ _ _ rfl
  have E2 : ∀ W : World, (Op.equalIn 9999 3 (.int .i64 t) (.int .i64 t')).run Tryd.prog W = .ok (t == t') W := fun W => run_equalIn_int W 9998 _ _ _ _ _ rfl
  have E3 : ∀ W : World, (Op.equalIn 9999 3 (.int .i64 m) (.int .i64 m')).run Tryd.prog W = .ok (m == m') W := fun W => run_equalIn_int W 9998 _ _ _ _ _ rfl
  have E4 : ∀ W : World, (Op.equalIn 9999 4 (.bool c) (.bool c')).run Tryd.prog W = .ok (c == c') W := fun W => run_equalIn_bool' W 9998 _ _ _ rfl
  cases h1 : (s.toList == s'.toList) <;> cases h2 : (t == t') <;> cases h3 : (m == m') <;> cases h4 : (c == c')
  all_goals
    rw [h1] at E1
    rw [h2] at E2
    rw [h3] at E3
    rw [h4] at E4
    go_simp
    try simp only [E1, E2, E3, E4, Result.andThen_ok, Bool.true_eq_false, if_true, if_false]
    try go_simp
theorem run_neqAtr (s s' : ByteArray) (t t' m m' : Int) (c c' : Bool) (W : World) : (binOp .neq 33 (.agg #[.string s, .int .i64 t, .int .i64 m, .bool c]) (.agg #[.string s', .int .i64 t', .int .i64 m', .bool c'])).run Tryd.prog W = .ok (.bool !((s.toList == s'.toList) && ((t == t') && ((m == m') && (c == c'))))) W := by
  rw [run_neq_struct, run_eqAtr]
  rfl
theorem run_neqAtrS (a : Atr) (W : World) : (binOp .neq 33 (.agg #[.string a.name, .int .i64 a.type, .int .i64 a.mode, .bool a.circ]) (.agg #[.string a.name, .int .i64 a.type, .int .i64 a.mode, .bool a.circ])).run Tryd.prog W = .ok (.bool false) W := by
  rw [run_neqAtr]
  simp
theorem findA_at {x : Sym} (h : validY x = true) {i : Nat} {a : Atr} (hi : x.attrs[i]? = some a) : findA x.attrs a.name = some a := by
  have hd : distS (nms x) = true := by
    unfold validY at h
    simp only [Bool.and_eq_true] at h
    exact h.2.2.2
  have hlt : i < x.attrs.length := (List.getElem?_eq_some_iff.1 hi).1
  unfold findA
  rw [List.find?_eq_some_iff_getElem]
  refine ⟨by simp, i, hlt, (List.getElem?_eq_some_iff.1 hi).2, fun j hj => ?_⟩
  have hji : j < x.attrs.length := by omega
  unfold distS at hd
  have h2 := List.all_eq_true.1 hd i (List.mem_range.2 (by rw [nms_len]; exact hlt))
  cases hq : (x.attrs[j].name.toList == a.name.toList) with
  | false => rfl
  | true =>
    exfalso
    have e1 : ((nms x).take i)[j]? = some x.attrs[j].name := by rw [List.getElem?_take, if_pos hj]; simp [nms, List.getElem?_eq_getElem hji]
    have e2 : (nms x).getD i ⟨#[]⟩ = a.name := by simp [nms, List.getD_eq_getElem?_getD, hi]
    have h3 := hasS_mem e1 (s := a.name) hq
    unfold disB at h2
    rw [e2, h3] at h2
    cases h2
end Go.Proofs.YtilndebjnibgjaaDoor
