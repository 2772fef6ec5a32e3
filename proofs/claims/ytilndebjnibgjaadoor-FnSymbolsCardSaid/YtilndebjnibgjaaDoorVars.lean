/- The last step of a row that lists variables of the program: they stay as they were. Conditions: the variables' types are readable. -/
import Derived.Test.YtilndebjnibgjaaDoorKit
import Derived.Test.YtilndebjnibgjaaDoorLaid
import Derived.ChangeBook
namespace Go.Proofs.YtilndebjnibgjaaDoor
set_option maxRecDepth 100000
open Go.ChangeShapes Go.WideShapes Go.ChangeAt Go.RowKit
section
variable {H : Type} {enc : TypeId × Value → H} {P : Program}
theorem vars_len {w : World} {sp : Nat → Bool} : ∀ {ns : List String} {gs : List (DataW H)} {ps : List MemPlace}, DataW.TrodVars enc P w sp ns gs ps → gs.length = ns.length
  | [], [], _, _ => rfl
  | n :: ns, d :: ds, ps, h => by
    obtain ⟨g, t, cs, fuel, p, q, h1, h2, h3, h4, hs, e⟩ := h
    simp [vars_len hs]
theorem vars_below (hl : laidOutB P = true) {W W' : World} (hb : Below W.heap.size W W') {sp : Nat → Bool} : ∀ {ns : List String} {gs : List (DataW H)} {ps : List MemPlace},
    (ns.all fun n => ((P.globalNamed n).bind fun g => (P.globals[g]?).map (·.type)).elim false fun t => P.readableRec t && decide (t < P.types.size)) = true →
    DataW.TrodVars enc P W (fun _ => true) ns gs ps → (∀ p ∈ ps, p.block < W.heap.size) → (∀ p ∈ ps, sp p.block = true) → DataW.TrodVars enc P W' sp ns gs ps
  | [], [], _, _, h, _, _ => h
  | n :: ns, d :: ds, ps, ht, h, hlt, hsp => by
    obtain ⟨g, t, cs, fuel, p, q, h1, h2, h3, h4, hs, rfl⟩ := h
    rw [List.all_cons, Bool.and_eq_true, h1, Option.bind_some, h2] at ht
    obtain ⟨ht1, ht2⟩ := ht
    simp only [Option.elim, Bool.and_eq_true, decide_eq_true_eq] at ht1
    have hg : g < W.heap.size := by
      by_cases hg : g < W.heap.size
      · exact hg
      · simp [World.var?, h1, Array.getElem?_eq_none (Nat.le_of_not_lt hg)] at h3
    have h3' : W'.var? P n = some cs := by
      simp only [World.var?, h1, Option.bind_some] at h3 ⊢
      rw [hb.block g hg]
      exact h3
    have h4' : DataW.trod enc P W' 0 sp true fuel t cs.toList = some (d, p) :=
      DataW.trod_stays (Go.kids_book hl ht1.1) (Go.book_sized ht1.1) (fun h => by cases h) ⟨ht1.2, Go.book_self t⟩ h4 (fun x hx => hb.same (hlt x (by simp [hx]))) (fun x hx => hsp x (by simp [hx]))
    exact ⟨g, t, cs, fuel, p, q, h1, h2, h3', h4', vars_below hl hb ht2 hs (fun x hx => hlt x (by simp [hx])) (fun x hx => hsp x (by simp [hx])), rfl⟩
/-- THE ROW's LAST STEP: true was returned, old memory is as it was, the listed variables too. -/
theorem law_postV {f : Func} {s : ChangeSpec} {apart fresh handsOn again : Bool} {W W' : World} {args : Array Value} {ds gs : List (DataW H)} {before : List MemPlace} {tb : TypeId}
    (hW : DataW.Whole enc P f.params.toList s.vars apart W args.toList ds gs before) (hb : Below W.heap.size W W') (hl : laidOutB P = true)
    (hts : f.params.toList.all (fun t => P.readableRec t && decide (t < P.types.size)) = true) (hr : f.resultTypes = #[tb]) (ht : P.underlying tb = some .bool)
    (hvs : (s.vars.all fun n => ((P.globalNamed n).bind fun g => (P.globals[g]?).map (·.type)).elim false fun t => P.readableRec t && decide (t < P.types.size)) = true)
    (hfn : s.fn H (ds ++ gs) = { results := [.lit (.bool true)], args := ds, vars := gs }) : s.post enc P f apart fresh handsOn again W args (.bool true) W' := by
  have hlt : ∀ p ∈ before, p.block < W.heap.size := fun p hp => hW.lt p hp
  have hW0 := hW
  obtain ⟨p, q, hA, hV, rfl, hz, hn⟩ := hW
  have hltp : ∀ x ∈ p, x.block < W.heap.size := fun x hx => hlt x (by simp [hx])
  have hltq : ∀ x ∈ q, x.block < W.heap.size := fun x hx => hlt x (by simp [hx])
  have hargs : ∀ sp : Nat → Bool, (∀ x ∈ p, sp x.block = true) → DataW.TrodAll enc P W' 0 sp true f.params.toList args.toList ds p := fun sp hsp => trodAll_below hl hb hts hA hltp hsp
  have hres : ∀ (b : Nat) (sp : Nat → Bool) (hd : Bool), DataW.TrodAll enc P W' b sp hd f.resultTypes.toList ((Value.bool true).resultList f.resultTypes.size) [.lit (.bool true)] [] := by
    intro b sp hd
    rw [hr]
    exact trodAll_cons_mk (shut_bool ht true) trodAll_mk0
  have hvars : ∀ sp : Nat → Bool, (∀ x ∈ q, sp x.block = true) → DataW.TrodVars enc P W' sp s.vars gs q := fun sp hsp => vars_below hl hb hvs hV hltq hsp
  have e1 : (s.fn H (ds ++ gs)).results = [.lit (.bool true)] := by rw [hfn]
  have e2 : (s.fn H (ds ++ gs)).args = ds := by rw [hfn]
  have e3 : (s.fn H (ds ++ gs)).vars = gs := by rw [hfn]
  have rA : ∀ sp : Nat → Bool, (∀ x ∈ p, sp x.block = true) → DataW.TrodAll enc P W' 0 sp true f.params.toList args.toList (s.fn H (ds ++ gs)).args p := fun sp hsp => by rw [e2]; exact hargs sp hsp
  have rR : ∀ (b : Nat) (sp : Nat → Bool) (hd : Bool), DataW.TrodAll enc P W' b sp hd f.resultTypes.toList ((Value.bool true).resultList f.resultTypes.size) (s.fn H (ds ++ gs)).results [] := fun b sp hd => by rw [e1]; exact hres b sp hd
  have rV : ∀ sp : Nat → Bool, (∀ x ∈ q, sp x.block = true) → DataW.TrodVars enc P W' sp s.vars (s.fn H (ds ++ gs)).vars q := fun sp hsp => by rw [e3]; exact hvars sp hsp
  refine ⟨ds, gs, p ++ q, [], p, q, hW0, rR _ _ _, rA _ (fun x hx => by simpa using hltp x hx), rV _ (fun x hx => by simpa using hltq x hx), World.keptBut_mono (fun x hx => ⟨hx, Or.inr (List.mem_append.1 hx)⟩) (hb.frame (· ∈ p ++ q)), fun _ => ?_⟩
  · refine ⟨ok_one hr rfl (okWide_bool_mk ht true), _, _, ([] ++ p) ++ q, ⟨[] ++ p, q, trodAll_append (rA _ (fun _ _ => rfl)) (rR _ _ _), rV _ (fun _ _ => rfl), rfl, ?_, ?_⟩, ?_⟩
    · intro b off hp
      have hin : MemPlace.cell b off ∈ p ++ q := by simpa using hp
      rw [hb.frozen (hlt _ hin)]
      exact hz b off hin
    · intro ha
      simpa using hn ha
    · intro x hx _
      simpa using hx
end
end Go.Proofs.YtilndebjnibgjaaDoor
