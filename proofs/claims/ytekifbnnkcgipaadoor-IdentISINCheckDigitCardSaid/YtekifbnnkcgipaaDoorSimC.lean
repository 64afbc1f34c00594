/- Each answer of the interpreter's operations is what the model's operation gives. Conditions: none. -/
import Derived.Test.YtekifbnnkcgipaaDoorSimB
import Derived.Laws.Cells
import Derived.Laws.Entries
import Derived.Laws.Tables
namespace Go.Sim

theorem add_at (b o j : Nat) : (Addr.mk b o none).add j = ⟨b, o + j, none⟩ := by
  unfold Addr.add
  split
  · rename_i h; subst h; rfl
  · rfl

section
variable {P : Program} {τ : Tab} [TabOk P τ] {β : Envr} {N : Nat → Prop} {w : World}

theorem run_ty {T : TypeId} {t : TypeDesc} (h : Ty τ T = some t) (w : World) : (underlying T).run P w = .ok t w := run_underlying (TabOk.ty T t h) w

theorem run_size {T : TypeId} {s : Nat} (h : TySize τ T = some s) (w : World) : (sizeOf T).run P w = .ok s w := by
  have h := TabOk.sz (P := P) T s h
  cases hi : P.info? T with
  | none => simp [hi] at h
  | some i =>
    simp [hi] at h
    simp [sizeOf, typeInfo, hi, h]

theorem run_isAggD {T : TypeId} {t : TypeDesc} (h : Ty τ T = some t) (w : World) : (isAgg T).run P w = .ok (isAggD t) w := by
  simp only [isAgg, Sem.run_bind, run_ty h, Result.andThen_ok]
  cases t <;> rfl

/-- What the model's 'part' gives. -/
theorem partR_ok {T : TypeId} {l : List RV} {off : Nat} {x : RV} (h : partR τ T l off = some x) {vs : List Value} (hl : vs.length = l.length)
    (hd : ∀ (j : Nat) x v, l[j]? = some x → vs[j]? = some v → RDen N w x v) (w' : World) : ∃ v, (part T vs.toArray off).run P w' = .ok v w' ∧ RDen N w x v := by
  unfold partR at h
  cases ht : Ty τ T with
  | none => simp [ht] at h
  | some t =>
    simp only [ht] at h
    cases ha : isAggD t with
    | true =>
      simp only [ha] at h
      cases hs : TySize τ T with
      | none => simp [hs] at h
      | some s =>
        simp only [hs] at h
        cases hle : Nat.ble (off + s) l.length with
        | false => simp [hle] at h
        | true =>
          simp only [hle, Option.some.injEq] at h
          subst h
          have hle' := Nat.le_of_ble_eq_true hle
          refine ⟨.agg (vs.toArray.extract off (off + s)), by simp [part, run_isAggD ht, ha, run_size hs], ?_⟩
          have e : vs.toArray.extract off (off + s) = ((vs.drop off).take s).toArray := by
            simp [List.extract_eq_take_drop]
          rw [e]
          refine .agg _ _ (by simp; omega) fun j x v hx hv => ?_
          rw [List.getElem?_take] at hx hv
          split at hx
          · rename_i hj
            rw [if_pos hj] at hv
            rw [List.getElem?_drop] at hx hv
            exact hd _ _ _ hx hv
          · cases hx
    | false =>
      simp only [ha] at h
      have hlt : off < l.length := (List.getElem?_eq_some_iff.1 h).1
      have hv : vs[off]? = some (vs[off]'(by omega)) := List.getElem?_eq_getElem _
      refine ⟨vs[off]'(by omega), by simp [part, run_isAggD ht, ha, hv], hd _ _ _ h hv⟩

/-- The same out of memory. -/
theorem load_ok {T : TypeId} {l : List RV} {off : Nat} {x : RV} (h : partR τ T l off = some x) {b o : Nat} (c : Nat → Value)
    (hc : ∀ j, j < l.length → w.cell? ⟨b, o + j, none⟩ = some (c j)) (hd : ∀ (j : Nat) x, l[j]? = some x → RDen N w x (c j)) :
    ∃ v, (loadVar T ⟨b, o + off, none⟩).run P w = .ok v w ∧ RDen N w x v := by
  unfold partR at h
  cases ht : Ty τ T with
  | none => simp [ht] at h
  | some t =>
    simp only [ht] at h
    cases ha : isAggD t with
    | true =>
      simp only [ha] at h
      cases hs : TySize τ T with
      | none => simp [hs] at h
      | some s =>
        simp only [hs] at h
        cases hle : Nat.ble (off + s) l.length with
        | false => simp [hle] at h
        | true =>
          simp only [hle, Option.some.injEq] at h
          subst h
          have hle' := Nat.le_of_ble_eq_true hle
          have hr := run_loadCells_list (P := P) (w := w) (⟨b, o + off, none⟩ : Addr) ((List.range s).map fun j => c (off + j)) (fun j v hv => by
            rw [add_at]
            simp only [List.getElem?_map] at hv
            by_cases hj : j < s
            · rw [List.getElem?_range hj] at hv
              simp at hv; subst hv
              rw [Nat.add_assoc]
              exact hc _ (by omega)
            · rw [List.getElem?_eq_none (by simp; omega)] at hv; simp at hv)
          refine ⟨.agg ((List.range s).map fun j => c (off + j)).toArray, ?_, ?_⟩
          · simp only [loadVar, Sem.run_bind, run_isAggD ht, Result.andThen_ok, ha, if_true, run_size hs]
            simp only [List.length_map, List.length_range] at hr
            simp [hr]
          · refine .agg _ _ (by simp; omega) fun j x v hx hv => ?_
            rw [List.getElem?_take] at hx
            split at hx
            · rename_i hj
              rw [List.getElem?_drop] at hx
              rw [List.getElem?_map, List.getElem?_range hj] at hv
              simp at hv; subst hv
              exact hd _ _ hx
            · cases hx
    | false =>
      simp only [ha] at h
      have hlt : off < l.length := (List.getElem?_eq_some_iff.1 h).1
      refine ⟨c off, ?_, hd _ _ h⟩
      simp [loadVar, run_isAggD ht, ha, hc _ hlt]

theorem oneV_eq (v : Value) : oneV v = v.oneCell' := by cases v <;> rfl

/-- The cells l stand for the values vs. -/
def Cells (N : Nat → Prop) (w : World) (l : List RV) (vs : List Value) : Prop := vs.length = l.length ∧ ∀ (j : Nat) x v, l[j]? = some x → vs[j]? = some v → RDen N w x v

theorem Cells.append {l l' : List RV} {vs vs' : List Value} (h : Cells N w l vs) (h' : Cells N w l' vs') : Cells N w (l ++ l') (vs ++ vs') := by
  refine ⟨by simp [h.1, h'.1], fun j x v hx hv => ?_⟩
  rw [List.getElem?_append] at hx hv
  rw [h.1] at hv
  split at hx
  · rename_i hj; rw [if_pos hj] at hv; exact h.2 _ _ _ hx hv
  · rename_i hj; rw [if_neg hj] at hv; exact h'.2 _ _ _ hx hv

theorem Cells.take {l : List RV} {vs : List Value} (h : Cells N w l vs) (n : Nat) : Cells N w (l.take n) (vs.take n) := by
  refine ⟨by simp [h.1], fun j x v hx hv => ?_⟩
  rw [List.getElem?_take] at hx hv
  split at hx
  · rename_i hj; rw [if_pos hj] at hv; exact h.2 _ _ _ hx hv
  · cases hx

theorem Cells.drop {l : List RV} {vs : List Value} (h : Cells N w l vs) (n : Nat) : Cells N w (l.drop n) (vs.drop n) := by
  refine ⟨by simp [h.1], fun j x v hx hv => ?_⟩
  rw [List.getElem?_drop] at hx hv
  exact h.2 _ _ _ hx hv

theorem Cells.agg {l : List RV} {vs : List Value} (h : Cells N w l vs) : RDen N w (.agg l) (.agg vs.toArray) := .agg _ _ h.1 h.2

/-- The cells of a value. -/
theorem Cells.of_den {x : RV} {v : Value} (h : RDen N w x v) (hx : (oneR x || isAggR x) = true) : Cells N w x.cells v.cells.toList := by
  cases h with
  | val v =>
    have : oneV v = true := by simpa [oneR, isAggR] using hx
    have e : v.cells = #[v] := by cases v <;> simp_all [oneV, Value.cells]
    rw [e]
    refine ⟨rfl, fun j x u hx hu => ?_⟩
    cases j with
    | zero => simp [RV.cells] at hx hu; subst hx; subst hu; exact .val _
    | succ j => simp [RV.cells] at hx
  | none =>
    refine ⟨rfl, fun j x u hx hu => ?_⟩
    cases j with
    | zero => simp [RV.cells, Value.cells] at hx hu; subst hx; subst hu; exact .none
    | succ j => simp [RV.cells] at hx
  | nil sz f =>
    refine ⟨rfl, fun j x u hx hu => ?_⟩
    cases j with
    | zero => simp [RV.cells, Value.cells] at hx hu; subst hx; subst hu; exact .nil _ _
    | succ j => simp [RV.cells] at hx
  | row sz n f b o cap c hcap hb hN hsz hc ho hd =>
    refine ⟨rfl, fun j x u hx hu => ?_⟩
    cases j with
    | zero => simp [RV.cells, Value.cells] at hx hu; subst hx; subst hu; exact .row sz n f b o cap c hcap hb hN hsz hc ho hd
    | succ j => simp [RV.cells] at hx
  | agg l vs hl hd => exact ⟨by simpa [Value.cells, RV.cells] using hl, fun j x v hx hv => hd j x v hx (by simpa [Value.cells] using hv)⟩

theorem ofCell_ok (v : Value) : RDen N w (ofCell v) v := by
  unfold ofCell
  split
  · exact .none
  · exact .val _

theorem normR_ok {x : RV} {v : Value} (h : RDen N w x v) : RDen N w (normR x) v := by
  cases h with
  | val v => exact .val v
  | none => exact .nil _ _
  | nil sz f => exact .nil sz f
  | row sz n f b o cap c hcap hb hN hsz hc ho hd => exact .row sz n f b o cap c hcap hb hN hsz hc ho hd
  | agg l vs hl hd => exact .agg l vs hl hd

theorem ofVal_ok (v : Value) : RDen N w (ofVal v) v := by
  unfold ofVal
  split
  · rename_i cs
    have : Cells N w (cs.toList.map ofCell) cs.toList := ⟨by simp, fun j x v hx hv => by
      rw [List.getElem?_map, hv] at hx
      simp at hx; subst hx
      exact ofCell_ok _⟩
    simpa using this.agg
  · exact ofCell_ok _

theorem zeroOf_ok {T : TypeId} {z : RV} (h : zeroOf τ T = some z) (w' : World) : ∃ v, (zeroValue T).run P w' = .ok v w' ∧ RDen N w z v := by
  obtain ⟨i, v, hi, hz, rfl⟩ := TabOk.zr (P := P) T z h
  exact ⟨v, by simp [zeroValue, typeInfo, hi, hz], ofVal_ok v⟩

theorem oneCell_of {x : RV} {v : Value} (h : RDen N w x v) (hx : oneR x = true) : v.oneCell' = true := by
  cases h with
  | val v => rw [← oneV_eq]; exact hx
  | none => rfl
  | nil => rfl
  | row => rfl
  | agg => cases hx

theorem Cells.oneCell {l : List RV} {vs : List Value} (h : Cells N w l vs) (ha : allOne l = true) : ∀ v ∈ vs, v.oneCell' = true := by
  intro v hv
  obtain ⟨j, hj⟩ := List.mem_iff_getElem?.1 hv
  have hlt : j < l.length := by rw [← h.1]; exact (List.getElem?_eq_some_iff.1 hj).1
  have hx : l[j]? = some (l[j]) := List.getElem?_eq_getElem hlt
  exact oneCell_of (h.2 j _ v hx hj) (allOne_mem ha hx)

theorem fitsR_or {x : RV} (h : fitsR x = true) : (oneR x || isAggR x) = true ∧ allOne x.cells = true := by
  cases x with
  | agg l => exact ⟨rfl, h⟩
  | val v => exact ⟨by simp only [fitsR] at h; rw [h]; rfl, by simp only [fitsR] at h; simp [RV.cells, allOne, h]⟩
  | nil => exact ⟨rfl, rfl⟩
  | row sz n f => exact ⟨rfl, rfl⟩

/-- Laying the cells of one value over a row of cells. -/
theorem lay_foldl : ∀ (vs : List Value) (k off : Nat) (cs : Array Value), off + k + vs.length ≤ cs.size →
    (vs.zipIdx k).foldl (fun (cs : Array Value) (cj : Value × Nat) => cs.setIfInBounds (off + cj.2) cj.1) cs = (cs.toList.take (off + k) ++ vs ++ cs.toList.drop (off + k + vs.length)).toArray
  | [], k, off, cs, h => by simp
  | v :: vs, k, off, cs, h => by
    simp only [List.zipIdx_cons, List.foldl_cons]
    rw [lay_foldl vs (k + 1) off _ (by simp at h ⊢; omega)]
    congr 1
    have hk : off + k < cs.size := by simp at h; omega
    apply List.ext_getElem?
    intro j
    simp only [Array.toList_setIfInBounds, List.append_assoc, List.getElem?_append, List.length_take, List.length_set, Array.length_toList, List.getElem?_take, List.getElem?_drop, List.getElem?_set, List.length_cons, Nat.add_assoc]
    have h1 : min (off + (k + 1)) cs.size = off + k + 1 := by omega
    have h2 : min (off + k) cs.size = off + k := by omega
    simp only [h1, h2]
    by_cases a : j < off + k
    · simp [a, show j < off + k + 1 by omega, show off + k ≠ j by omega, show j < off + (k + 1) by omega]
    · by_cases b : j = off + k
      · subst b
        simp [hk, show off + k < off + k + 1 by omega, show off + k < off + (k + 1) by omega]
      · have e : j - (off + k) = (j - (off + k + 1)) + 1 := by omega
        simp only [a, if_false, show ¬ j < off + k + 1 by omega, e, List.getElem?_cons_succ]
        have hlen : (v :: vs).length = vs.length + 1 := rfl
        by_cases c : j - (off + k + 1) < vs.length
        · simp [c]
        · rw [if_neg c, if_neg (by omega), if_neg (by omega)]
          congr 1
          omega

theorem Cells.layAt {l x : List RV} {vs us : List Value} (h : Cells N w l vs) (h' : Cells N w x us) (off : Nat) : Cells N w (layAt l off x) (vs.take off ++ us ++ vs.drop (off + us.length)) := by
  unfold Sim.layAt
  rw [h'.1]
  exact ((h.take off).append h').append (h.drop _)

theorem fill_ok (pl pl' : Nat → Option (Nat × Nat)) : ∀ (ps : List (Nat × RV)) (qs : List (Nat × Value)) (l : List RV) (vs : List Value) (r : List RV), layParts pl l ps = some r → Cells N w l vs →
    qs.length = ps.length → (∀ (j : Nat) p q, ps[j]? = some p → qs[j]? = some q → q.1 = p.1 ∧ RDen N w p.2 q.2) → (∀ i o s, pl i = some (o, s) → pl' i = some (o, s)) →
    ∃ us, Instr.fill pl' vs.toArray qs = some us.toArray ∧ Cells N w r us
  | [], [], l, vs, r, h, hc, _, _, _ => by simp [layParts] at h; subst h; exact ⟨vs, rfl, hc⟩
  | [], q :: qs, l, vs, r, h, hc, hl, _, _ => by simp at hl
  | p :: ps, [], l, vs, r, h, hc, hl, _, _ => by simp at hl
  | (i, x) :: ps, (i', v) :: qs, l, vs, r, h, hc, hl, hd, hp => by
    obtain ⟨h0, hv⟩ := hd 0 _ _ rfl rfl
    simp only at h0 hv
    subst h0
    simp only [layParts] at h
    cases hpl : pl i' with
    | none => simp [hpl] at h
    | some os =>
      obtain ⟨o, s⟩ := os
      simp only [hpl] at h
      split at h
      · rename_i hcond
        simp only [Bool.and_eq_true] at hcond
        obtain ⟨⟨hs, hle⟩, hone⟩ := hcond
        have hs := Nat.eq_of_beq_eq_true hs
        have hle := Nat.le_of_ble_eq_true hle
        have hcv := Cells.of_den hv hone
        have hvl : v.cells.size = s := by have := hcv.1; simpa [hs] using this
        have hlv := hc.1
        have hfold := lay_foldl v.cells.toList 0 o vs.toArray (by simp; omega)
        have hc' := Cells.layAt (off := o) hc hcv
        obtain ⟨us, hus, hcu⟩ := fill_ok pl pl' ps qs _ _ r h hc' (by simpa using hl) (fun j p q hp hq => hd (j + 1) p q (by simpa using hp) (by simpa using hq)) hp
        refine ⟨us, ?_, hcu⟩
        simp only [Instr.fill, hp _ _ _ hpl]
        rw [if_neg (by simp [hvl]; omega)]
        rw [← hus]
        congr 1
        have e : v.cells.zipIdx.foldl (fun cs (c, j) => cs.setIfInBounds (o + j) c) vs.toArray = (v.cells.toList.zipIdx 0).foldl (fun (cs : Array Value) (cj : Value × Nat) => cs.setIfInBounds (o + cj.2) cj.1) vs.toArray := by
          rw [← Array.foldl_toList]
          simp
        rw [e, hfold]
        simp
      · cases h

end
end Go.Sim
