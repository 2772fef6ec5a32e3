/- One element appended to a row that the call owns. Plain: no program. -/
import Derived.Test.YtaihdnlpdibkoaaFrame
import Derived.OwnWalk
namespace Go.Proofs.Ytaihdnlpdibkoaa
set_option maxRecDepth 100000
open Go.RowKit

theorem own_below {w w' : World} {base e size n : Nat} {v : Value} {xs : List Value} (h : w.ownsRow base e size v n xs) (hb : Below w.heap.size w w') : w'.ownsRow base e size v n xs := by
  obtain ⟨h1, h2⟩ := h
  refine ⟨h1, ?_⟩
  rcases h2 with h2 | ⟨g, cap, cur, h3, h4, h5, h6⟩
  · exact .inl h2
  · exact .inr ⟨g, cap, cur, h3, h4, blk_below h5 hb (blk_lt h5), h6⟩
theorem app_own {P : Program} {ops : Array Oper} {rest : List Oper} {o : Oper} {a : Act} {Q : Exit → Act → World → Prop} (hgd : o.guard = none) (s x : Operand) (t e : TypeId)
    (ho : o.op = .call { callee := .builtin .append, args := #[s, x], argTypes := #[t, t] }) (ht : P.underlying t = some (.slice e)) {z : Value} {size bytes : Nat}
    (hinfo : (P.info? e).map (fun i => (i.zero, i.size, i.bytes)) = some (some z, size, bytes)) (hzs : z.cells.size = size) (hsz : 0 < size) (wr : World) (base : Nat) (v : Value) (n : Nat) (xs : List Value)
    (hown : wr.ownsRow base e size v n xs) (hs : a.eval s = v) (ys : List Value) (hyl : ys.length = size) (hy1 : ∀ u ∈ ys, u.oneCell' = true) (hx : a.eval x = .slice (some ⟨wr.heap.size, 0, none⟩) 1 1)
    (hn : n + 1 ≤ 1099511627776) (hby : (n + 1) * bytes ≤ 140737488355328) (hbase : base ≤ wr.heap.size)
    (h : ∀ v' w', w'.ownsRow base e size v' (n + 1) (xs ++ ys) → Below base wr w' → wpList P ops Q rest (a.put o.dst v') w') : wpList P ops Q (o :: rest) a (wr.alloc (.cells ys.toArray e)) := by
  obtain ⟨i0, hi, hz0, hz1, hz2⟩ := info_parts hinfo
  refine wpList_append_own _ hgd s x t ho base e i0 z size bytes ht hi hz0 hz1 hz2 hzs hsz v n xs hs (own_below hown ((Below.refl _ _).alloc (Nat.le_refl _) _)) ⟨wr.heap.size, 0, none⟩ 1 1 ys hx (by omega) (fun j u hu => ?_) hy1 (by unfold maxLen; omega) hby (by simp; omega) ?_
  · have := CellsAt.new wr ys e j u hu
    rw [Nat.zero_add] at this
    unfold Addr.add
    split
    · rename_i h0
      subst h0
      exact this
    · rw [show (0 : Nat) + j = j by omega]
      exact this
  · intro v' w' h1 h2 _
    refine h v' w' h1 (((Below.refl base wr).alloc hbase _).grown h2 (by simp; omega) (fun k hk => ?_))
    obtain ⟨_, h3⟩ := hown
    rcases h3 with ⟨rfl, _⟩ | ⟨g, c0, cur, rfl, hg, _⟩
    · cases hk
    · simp only [Value.ownBlock, Option.some.injEq] at hk
      omega
end Go.Proofs.Ytaihdnlpdibkoaa
