/- Expressions overwritten by marks. Conditions: numbers from 1 to 2^40. -/
import Derived.Test.YtigdciegnpejoaaDoorMarkO
namespace Go.Proofs.YtigdciegnpejoaaDoor
set_option maxRecDepth 100000
open Go.RowKit Go.WideShapes
set_option linter.unusedVariables false

def ctE0 : Nat → Ex → Nat
  | 0, _ => 0
  | d + 1, e => 6 + ctL (ctE0 d) e.args
def mkE : Nat → Nat → Ex → Ex
  | 0, _, e => e
  | d + 1, k, e => .mk ⟨(k : Int), (k : Int) + 1, (k : Int) + 1 + 1, (k : Int) + 1 + 1 + 1, mkT (k + 1 + 1 + 1 + 1), mkT (k + 1 + 1 + 1 + 1 + 1)⟩ (mkL (mkE d) (ctE0 d) (k + 1 + 1 + 1 + 1 + 1 + 1) e.args)
theorem wf_int {z : Int} (h0 : 0 ≤ z) (h1 : z ≤ 1099511627776) : (Lit.int .i64 z).wf = true := by simp [Lit.wf, IntKind.min, IntKind.max, IntKind.signed, IntKind.bits]; omega
theorem mkE_ok {d k : Nat} {x : Ex} (hk : k + 6 ≤ 1099511627776) : (mkE (d + 1) k x).h.ok :=
  ⟨wf_int (z := (k : Int)) (by omega) (by omega), wf_int (z := (k : Int) + 1) (by omega) (by omega), wf_int (z := (k : Int) + 1 + 1) (by omega) (by omega), wf_int (z := (k : Int) + 1 + 1 + 1) (by omega) (by omega), mkT_small (k := k + 1 + 1 + 1 + 1) (by omega), mkT_small (k := k + 1 + 1 + 1 + 1 + 1) (by omega)⟩
theorem Fresh.mid {C b : Nat} {w : World} {F1 Fk F2 : List Nat} (h : Fresh C w (b :: (F1 ++ (Fk ++ F2)))) : Fresh C w Fk := by
  refine ⟨?_, fun k hk => h.from_ k (by simp [hk]), fun k hk => h.cells k (by simp [hk])⟩
  have h1 := (List.nodup_cons.1 h.nodup).2
  have h2 := (List.nodup_append.1 h1).2.1
  exact (List.nodup_append.1 h2).1
theorem PutG.weak {w W : World} {b o : Nat} {X : List Nat} {vs : List Value} (h : PutG w b o [] vs W) : PutG w b o X vs W :=
  ⟨h.blk, fun k hk hb _ => h.far k hk hb (by simp), h.size, h.os, h.tape, h.output⟩
theorem nodup_mid {b : Nat} {F1 Fk F2 : List Nat} (h : (b :: (F1 ++ (Fk ++ F2))).Nodup) : (∀ k ∈ F1, k ≠ b ∧ k ∉ Fk) ∧ (∀ k ∈ F2, k ≠ b ∧ k ∉ Fk) := by
  obtain ⟨hb, h1⟩ := List.nodup_cons.1 h
  obtain ⟨_, h2, h3⟩ := List.nodup_append.1 h1
  obtain ⟨_, _, h4⟩ := List.nodup_append.1 h2
  exact ⟨fun k hk => ⟨fun e => hb (by simp [← e, hk]), fun hm => h3 k hk k (by simp [hm]) rfl⟩, fun k hk => ⟨fun e => hb (by simp [← e, hk]), fun hm => h4 k hm k hk rfl⟩⟩
theorem wf_nat {k : Nat} (hk : k ≤ 1099511627776) : (Lit.int .i64 (k : Int)).wf = true := by simp [Lit.wf, IntKind.min, IntKind.max, IntKind.signed, IntKind.bits]; omega
end Go.Proofs.YtigdciegnpejoaaDoor
