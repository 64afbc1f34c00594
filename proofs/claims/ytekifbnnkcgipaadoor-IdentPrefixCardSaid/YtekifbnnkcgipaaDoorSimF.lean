/- Literals, calls, and the interpreter's answer to an operation as a whole. Conditions: none. -/
import Derived.Test.YtekifbnnkcgipaaDoorSimE
namespace Go.Sim
open Go.RowKit (Below)

section
variable {P : Program} {τ : Tab} [TabOk P τ] {β : Envr} {N : Nat → Prop} {w : World}

theorem evNilCheck_ok {p : SV} {ps : List Prop} {x : SV} (h : evNilCheck p = some (ps, x)) {u : Value} (hu : SDen β N w p u) :
    (∃ a, u = .pointer (some a)) ∧ SDen β N w x u ∨ (∃ g a b, u = .func (.func g) a b) ∧ SDen β N w x u := by
  unfold evNilCheck at h
  split at h
  · simp only [Option.some.injEq, Prod.mk.injEq] at h; obtain ⟨rfl, rfl⟩ := h
    cases hu; exact .inl ⟨⟨_, rfl⟩, .loc _ _⟩
  · simp only [Option.some.injEq, Prod.mk.injEq] at h; obtain ⟨rfl, rfl⟩ := h
    cases hu with
    | elem _ _ _ _ _ b o' c hi hb hN hsz hc ho hd => exact .inl ⟨⟨_, rfl⟩, .elem _ _ _ _ _ b o' c hi hb hN hsz hc ho hd⟩
  · simp only [rv, Option.some.injEq, Prod.mk.injEq] at h; obtain ⟨rfl, rfl⟩ := h
    obtain rfl := hu.val
    exact .inr ⟨⟨_, _, _, rfl⟩, hu⟩
  · cases h

theorem lookAll_ok {lk : Operand → Option SV} {e : Operand → Value} (hlk : ∀ x s, lk x = some s → SDen β N w s (e x)) : ∀ (xs : List Operand) (rs : List RV), lookAll lk xs = some rs → Cells N w rs (xs.map e)
  | [], rs, h => by simp [lookAll] at h; subst h; exact ⟨rfl, fun j x v hx => by simp at hx⟩
  | x :: xs, rs, h => by
    simp only [lookAll] at h
    split at h
    · rename_i r rs' h1 h2
      simp only [Option.some.injEq] at h; subst h
      have h0 := hlk _ _ h1
      obtain ⟨hl, hd⟩ := lookAll_ok hlk xs rs' h2
      refine ⟨by simpa using hl, fun j y v hy hv => ?_⟩
      cases j with
      | zero =>
        simp at hy hv; subst hy; subst hv
        cases h0 with
        | d h => exact normR_ok h
      | succ j => simp at hy hv; exact hd j y v hy (by simpa using hv)
    · cases h

theorem lookParts_ok {lk : Operand → Option SV} {e : Operand → Value} (hlk : ∀ x s, lk x = some s → SDen β N w s (e x)) : ∀ (xs : List (Nat × Operand)) (rs : List (Nat × RV)), lookParts lk xs = some rs →
    rs.length = xs.length ∧ ∀ (j : Nat) p q, rs[j]? = some p → (xs.map fun (i, x) => (i, e x))[j]? = some q → q.1 = p.1 ∧ RDen N w p.2 q.2
  | [], rs, h => by simp [lookParts] at h; subst h; exact ⟨rfl, fun j x v hx => by simp at hx⟩
  | (i, x) :: xs, rs, h => by
    simp only [lookParts] at h
    split at h
    · rename_i r rs' h1 h2
      simp only [Option.some.injEq] at h; subst h
      have h0 := hlk _ _ h1
      obtain ⟨hl, hd⟩ := lookParts_ok hlk xs rs' h2
      refine ⟨by simpa using hl, fun j y v hy hv => ?_⟩
      cases j with
      | zero =>
        simp at hy hv; subst hy; subst hv
        cases h0 with
        | d h => exact ⟨rfl, normR_ok h⟩
      | succ j => simp at hy hv; exact hd j y v hy (by simpa using hv)
    · cases h

theorem placesL_ok : ∀ (fs : List Field) (l : List (Nat × Nat)), placesL τ fs = some l → fs.mapM (fun f => (P.info? f.type).map fun i => (f.offset, i.size)) = some l
  | [], l, h => by simp [placesL] at h; subst h; simp
  | f :: fs, l, h => by
    simp only [placesL] at h
    split at h
    · rename_i s l' h1 h2
      simp only [Option.some.injEq] at h; subst h
      have h1 := TabOk.sz (P := P) f.type s h1
      cases hi : P.info? f.type with
      | none => simp [hi] at h1
      | some i =>
        simp [hi] at h1
        simp [List.mapM_cons, hi, placesL_ok fs l' h2, h1]
    · cases h

theorem evBuild_ok {lk : Operand → Option SV} {a : Act} (hlk : ∀ x s, lk x = some s → SDen β N w s (a.eval x)) {T : TypeId} {parts : Array (Nat × Operand)} {ps : List Prop} {x : SV} (h : evBuild τ lk T parts.toList = some (ps, x)) :
    Gives P β N w (Instr.build T (parts.map fun (i, x) => (i, a.eval x))) x := by
  unfold evBuild at h
  split at h
  · rename_i z pl qs hz hpl hps
    split at h
    · rename_i cs hcs
      simp only [rv, Option.some.injEq, Prod.mk.injEq] at h
      obtain ⟨rfl, rfl⟩ := h
      obtain ⟨hl, hd⟩ := lookParts_ok hlk _ _ hps
      obtain ⟨it, zv, hi, hzz, rfl⟩ := TabOk.zr (P := P) T z hz
      have hone : (oneR (ofVal zv) || isAggR (ofVal zv)) = true ∨ ¬ (oneR (ofVal zv) || isAggR (ofVal zv)) = true := Classical.em _
      have hzc : Cells N w (ofVal zv).cells zv.cells.toList := by
        have hd := ofVal_ok (N := N) (w := w) zv
        unfold ofVal at hd ⊢
        cases zv <;> first
          | exact Cells.of_den hd (by rfl)
          | (rename_i a l c; cases a <;> first | exact Cells.of_den hd (by rfl) | (cases l <;> cases c <;> exact Cells.of_den hd (by rfl)))
          | (refine ⟨rfl, fun j x u hx hu => ?_⟩
             cases j with
             | zero => simp [ofCell, RV.cells, Value.cells] at hx hu; subst hx; subst hu; exact .val _
             | succ j => simp [ofCell, RV.cells] at hx)
      unfold places at hpl
      split at hpl
      · rename_i fs hT
        split at hpl
        · rename_i l hL
          simp only [Option.some.injEq] at hpl; subst hpl
          obtain ⟨us, hus, hcu⟩ := fill_ok (N := N) (w := w) (fun i => l[i]?) (fun i => l.toArray[i]?) qs ((parts.map fun (i, x) => (i, a.eval x)).toList) _ _ _ hcs hzc (by simp at hl ⊢; omega)
            (fun j p q hp hq => hd j p q hp (by simpa using hq)) (fun i o s h => by simpa using h)
          have hT' : P.underlying T = some (.struct fs) := TabOk.ty T _ hT
          refine .mk (v := .agg us.toArray) (run_build w T _ _ ?_) (.d hcu.agg)
          simp only [Program.built, hi, hT', hzz, placesL_ok _ _ hL]
          simpa using hus
        · cases hpl
      · rename_i n e hT
        split at hpl
        · rename_i s hs
          simp only [Option.some.injEq] at hpl; subst hpl
          obtain ⟨us, hus, hcu⟩ := fill_ok (N := N) (w := w) (fun i => some (i * s, s)) (fun i => some (i * s, s)) qs ((parts.map fun (i, x) => (i, a.eval x)).toList) _ _ _ hcs hzc (by simp at hl ⊢; omega)
            (fun j p q hp hq => hd j p q hp (by simpa using hq)) (fun i o s h => h)
          have hT' : P.underlying T = some (.array n e) := TabOk.ty T _ hT
          have hs := TabOk.sz (P := P) e s hs
          cases hie : P.info? e with
          | none => simp [hie] at hs
          | some ie =>
            simp [hie] at hs; subst hs
            refine .mk (v := .agg us.toArray) (run_build w T _ _ ?_) (.d hcu.agg)
            simp only [Program.built, hi, hT', hzz, hie]
            simpa using hus
        · cases hpl
      · cases hpl
    · cases h
  · cases h

end
end Go.Sim
