/- Boxes are made and written; guards; one operation of a plain region. Conditions: none. -/
import Derived.Test.YtekifbnnkcgipaaDoorSimI
import Derived.Laws.CopyRow
namespace Go.Sim
open Go.RowKit (Below)

def noName (d : Nat) : List (Nat × SV) → Bool
  | [] => true
  | (_, x) :: l => match x.names d with
    | true => false
    | false => noName d l
theorem noName_mem {d : Nat} : ∀ {l : List (Nat × SV)} {s : Nat} {x : SV}, noName d l = true → (s, x) ∈ l → x.names d = false
  | (k, y) :: l, s, x, h, hm => by
    simp only [noName] at h
    split at h
    · cases h
    · rename_i hc
      rcases List.mem_cons.1 hm with hm | hm
      · obtain ⟨rfl, rfl⟩ := Prod.mk.inj hm; exact hc
      · exact noName_mem h hm
def noNameG (d : Nat) : List (Nat × Nat × Bool × SV) → Bool
  | [] => true
  | (_, _, _, x) :: l => match x.names d with
    | true => false
    | false => noNameG d l
theorem noNameG_mem {d : Nat} : ∀ {l : List (Nat × Nat × Bool × SV)} {s g : Nat} {p : Bool} {x : SV}, noNameG d l = true → (s, g, p, x) ∈ l → x.names d = false
  | (k, h', q, y) :: l, s, g, p, x, h, hm => by
    simp only [noNameG] at h
    split at h
    · cases h
    · rename_i hc
      rcases List.mem_cons.1 hm with hm | hm
      · simp only [Prod.mk.injEq] at hm
        obtain ⟨_, _, _, rfl⟩ := hm; exact hc
      · exact noNameG_mem h hm

def St.newBox (st : St) (d : Nat) (T : TypeId) (l : List RV) : Option St :=
  match isNone (findB st.bx d) && noName d st.sl && noNameG d st.gl && allOne l && Nat.blt d st.n && isNone (findB st.gl d) && noGuard d st.gl with
  | true => some ⟨st.n, (d, .loc d 0) :: st.sl, st.gl, (d, T, l) :: st.bx, st.ow, st.nx⟩
  | false => none

def setB (i : Nat) (c : TypeId × List RV) : List (Nat × TypeId × List RV) → List (Nat × TypeId × List RV)
  | [] => []
  | (k, x) :: l => match Nat.beq k i with
    | true => (k, c) :: l
    | false => (k, x) :: setB i c l

theorem findB_setB {i : Nat} {c : TypeId × List RV} : ∀ {l : List (Nat × TypeId × List RV)} (j : Nat), findB (setB i c l) j = if j = i then (findB l i).map (fun _ => c) else findB l j
  | [], j => by simp [setB, findB]
  | (k, x) :: l, j => by
    simp only [setB]
    cases hk : Nat.beq k i with
    | true =>
      have hk := Nat.eq_of_beq_eq_true hk
      subst hk
      simp only [findB]
      by_cases hj : j = k
      · subst hj; simp
      · have : Nat.beq k j = false := by cases h : Nat.beq k j with | false => rfl | true => exact absurd (Nat.eq_of_beq_eq_true h).symm hj
        simp [this, hj]
    | false =>
      simp only [findB]
      have ih := findB_setB (i := i) (c := c) (l := l) j
      cases hkj : Nat.beq k j with
      | true =>
        have hkj := Nat.eq_of_beq_eq_true hkj
        subst hkj
        have : k ≠ i := fun e => by rw [e] at hk; simp at hk
        simp [this]
      | false => simp only [ih, hk]

def upd (β : Envr) (d b : Nat) : Envr := ⟨fun j => if j = d then b else β.b j, β.r⟩
/-- A row that the call owns gets its value. -/
def updR (β : Envr) (i : Nat) (v : Value) : Envr := ⟨β.b, fun j => if j = i then v else β.r j⟩

theorem grdOn_names : True := trivial

theorem SlotOk.turnBox {β β' : Envr} {N : Nat → Prop} {a : Act} {w : World} {s d : Nat} {x : SV} (h : SlotOk β N a w s x) (hβ : ∀ j, j ≠ d → β'.b j = β.b j) (hr : β'.r = β.r) (hx : x.names d = false) : SlotOk β' N a w s x := by
  cases x with
  | grd g p y => exact ⟨fun e => (h.1 e).turn hβ hr (by simpa [SV.names] using hx), h.2⟩
  | d x => exact SDen.turn hβ hr h hx
  | loc i o => exact SDen.turn hβ hr h hx
  | elem sz n f i o => exact SDen.turn hβ hr h hx
  | tup l => exact SDen.turn hβ hr h hx
  | own i => exact SDen.turn hβ hr h hx

theorem SlotOk.less {β : Envr} {N N' : Nat → Prop} {a : Act} {w : World} {s : Nat} {x : SV} (hN : ∀ b, b < w.heap.size → N' b → N b) (h : SlotOk β N a w s x) : SlotOk β N' a w s x := by
  cases x with
  | grd g p y => exact ⟨fun e => (h.1 e).less hN, h.2⟩
  | d x => exact SDen.less hN h
  | loc i o => exact SDen.less hN h
  | elem sz n f i o => exact SDen.less hN h
  | tup l => exact SDen.less hN h
  | own i => exact SDen.less hN h

section
variable {W : World} {N0 F : Nat → Prop} {st : St} {β : Envr} {a : Act} {w : World}

theorem Rel.newBox (h : Rel W N0 F st β a w) {d : Nat} {T : TypeId} {l : List RV} {st' : St} (hs : st.newBox d T l = some st') {vs : List Value} (hc : Cells (NB N0 β st.bx st.ow) w l vs) :
    Rel W N0 F st' (upd β d w.heap.size) (a.put (some d) (.pointer (some ⟨w.heap.size, 0, none⟩))) (w.alloc (.cells vs.toArray T)) := by
  unfold St.newBox at hs
  split at hs
  · rename_i hcond
    simp only [Option.some.injEq] at hs; subst hs
    simp only [Bool.and_eq_true] at hcond
    obtain ⟨⟨⟨⟨⟨⟨hfind, hn⟩, hnG⟩, ha⟩, hd⟩, hgd⟩, hng⟩ := hcond
    have hfind := isNone_eq hfind
    have hgd := isNone_eq hgd
    have hd : d < st.n := Nat.le_of_ble_eq_true hd
    have hb : Below w.heap.size w (w.alloc (.cells vs.toArray T)) := (Below.refl _ _).alloc (Nat.le_refl _) _
    have hβ : ∀ j, j ≠ d → (upd β d w.heap.size).b j = β.b j := fun j hj => by simp [upd, hj]
    have hβr : (upd β d w.heap.size).r = β.r := rfl
    have hβd : (upd β d w.heap.size).b d = w.heap.size := by simp [upd]
    have hin : ∀ i, (findB st.bx i).isSome = true → i ≠ d := fun i hi e => by rw [e, hfind] at hi; cases hi
    have hfb : ∀ i, findB ((d, T, l) :: st.bx) i = if i = d then some (T, l) else findB st.bx i := fun i => by
      simp only [findB]
      cases hk : Nat.beq d i with
      | true => have := Nat.eq_of_beq_eq_true hk; subst this; simp
      | false =>
        have : i ≠ d := fun e => by rw [e] at hk; simp at hk
        simp [this]
    have hNB : ∀ b, b < w.heap.size → NB N0 (upd β d w.heap.size) ((d, T, l) :: st.bx) st.ow b → NB N0 β st.bx st.ow b := by
      rintro b hlt (h0 | ⟨i, hi, rfl⟩ | ⟨i, hi, hb⟩)
      · exact .inl h0
      · rw [hfb] at hi
        by_cases e : i = d
        · subst e; rw [hβd] at hlt; exact absurd hlt (Nat.lt_irrefl _)
        · rw [if_neg e] at hi
          exact .inr (.inl ⟨i, hi, (hβ i e).symm⟩)
      · exact .inr (.inr ⟨i, hi, hb⟩)
    have hsame : Same (NB N0 (upd β d w.heap.size) ((d, T, l) :: st.bx) st.ow) w (w.alloc (.cells vs.toArray T)) := .of_below hb
    have hnew : (w.alloc (.cells vs.toArray T)).heap[w.heap.size]? = some (.cells vs.toArray T (0, 0)) := heap_alloc_new w _
    refine ⟨h.keeps.below hb, by rw [put_size]; exact h.size, by rw [put_defers']; exact h.defers, fun s y hy => ?_, fun s g p y hy => ?_, ?_, ?_, ?_, h.outer, ?_, h.odist, ?_, h.onx⟩
    · simp only [findB_cons] at hy
      split at hy
      · rename_i e
        simp only [Option.some.injEq] at hy; subst hy; subst e
        rw [tv_put_same (by rw [h.size]; exact hd)]
        have := SDen.loc (β := upd β s w.heap.size) (N := NB N0 (upd β s w.heap.size) ((s, T, l) :: st.bx) st.ow) (w := w.alloc (.cells vs.toArray T)) s 0
        rwa [hβd] at this
      · rename_i e
        rw [tv_put_other e]
        exact ((SDen.turn hβ hβr (h.slots s y hy) (noName_mem hn (findB_mem hy))).less hNB).same hsame
    · have hne : s ≠ d := fun e => by
        have hy' : findB st.gl s = some (g, p, y) := hy
        rw [e, hgd] at hy'; cases hy'
      have h4 := ((h.guards s g p y hy).turnBox hβ hβr (by simpa [SV.names] using noNameG_mem hnG (findB_mem hy))).less hNB
      exact (h4.same hsame).turn (tv_put_other hne) (fun g2 p2 z e2 => tv_put_other (by
        obtain ⟨rfl, _, _⟩ := SV.grd.inj e2
        exact noGuard_ok hng (findB_mem hy)))
    · intro i T' cs hf
      rw [hfb] at hf
      by_cases e : i = d
      · subst e
        rw [if_pos rfl] at hf
        obtain ⟨rfl, rfl⟩ := Prod.mk.inj (Option.some.inj hf)
        exact ⟨vs, by rw [hβd]; exact hnew, ⟨hc.1, fun j x v hx hv => ((hc.2 j x v hx hv).less hNB).same hsame⟩, hc.oneCell ha⟩
      · rw [if_neg e] at hf
        obtain ⟨us, u1, u2, u3⟩ := h.boxes i T' cs hf
        have hlt := h.NB_lt (β.b i) (.inr (.inl ⟨i, by rw [hf]; rfl, rfl⟩))
        exact ⟨us, by rw [hβ i e, hb.block _ hlt]; exact u1, ⟨u2.1, fun j x v hx hv => ((u2.2 j x v hx hv).less hNB).same hsame⟩, u3⟩
    · intro i j hi hj hij
      rw [hfb] at hi hj
      by_cases ei : i = d <;> by_cases ej : j = d
      · rw [ei, ej]
      · rw [if_neg ej] at hj
        rw [ei, hβd, hβ j ej] at hij
        have := h.NB_lt (β.b j) (.inr (.inl ⟨j, hj, rfl⟩))
        omega
      · rw [if_neg ei] at hi
        rw [ej, hβd, hβ i ei] at hij
        have := h.NB_lt (β.b i) (.inr (.inl ⟨i, hi, rfl⟩))
        omega
      · rw [if_neg ei] at hi; rw [if_neg ej] at hj
        rw [hβ i ei, hβ j ej] at hij
        exact h.inj i j hi hj hij
    · intro i hi
      rw [hfb] at hi
      by_cases e : i = d
      · rw [e, hβd]; exact .inl h.keeps.size
      · rw [if_neg e] at hi; rw [hβ i e]; exact h.own i hi
    · have h5 : OwnsOk W.heap.size (upd β d w.heap.size) (NB N0 β st.bx st.ow) w st.ow := h.owns
      exact (h5.less hNB).same hsame (fun i b hi hb' => hb.block _ (h.owns.lt hi hb').2)
    · intro i j hi hj e
      rw [hfb] at hj
      have hlt := (h.owns.lt hi e).2
      by_cases ej : j = d
      · rw [ej, hβd] at hlt; exact absurd hlt (Nat.lt_irrefl _)
      · rw [if_neg ej] at hj
        rw [hβ j ej] at e
        exact h.obox i j hi hj e
  · cases hs

/-- Cells are laid over those of a box. -/
def St.store (st : St) (i off : Nat) (l : List RV) : Option St :=
  match findB st.bx i with
  | some (T, cs) => match Nat.ble (off + l.length) cs.length && allOne l with
    | true => some ⟨st.n, st.sl, st.gl, setB i (T, layAt cs off l) st.bx, st.ow, st.nx⟩
    | false => none
  | none => none

theorem Rel.store (h : Rel W N0 F st β a w) {i off : Nat} {l : List RV} {st' : St} (hs : st.store i off l = some st') {vs : List Value} (hc : Cells (NB N0 β st.bx st.ow) w l vs) (P : Program) :
    ∃ w', (storeCells ⟨β.b i, off, none⟩ vs 0).run P w = .ok () w' ∧ Rel W N0 F st' β a w' := by
  unfold St.store at hs
  split at hs
  · rename_i T cs hf
    split at hs
    · rename_i hcond
      simp only [Option.some.injEq] at hs; subst hs
      simp only [Bool.and_eq_true] at hcond
      have hle := Nat.le_of_ble_eq_true hcond.1
      obtain ⟨us, u1, u2, u3⟩ := h.boxes i T cs hf
      have hone := hc.oneCell hcond.2
      have hrun := run_storeCells_at (P := P) (β.b i) off T vs 0 us.toArray w u1 (by have := u2.1; have := hc.1; simp; omega) hone
      simp only [Nat.add_zero] at hrun
      refine ⟨_, hrun, ?_⟩
      have hNBeq : ∀ b, NB N0 β (setB i (T, layAt cs off l) st.bx) st.ow b ↔ NB N0 β st.bx st.ow b := by
        intro b
        have hiso : ∀ j, (findB (setB i (T, layAt cs off l) st.bx) j).isSome = (findB st.bx j).isSome := fun j => by
          rw [findB_setB]; split
          · rename_i e; subst e; simp [hf]
          · rfl
        unfold NB
        simp only [hiso]
      have hiso : ∀ j, (findB (setB i (T, layAt cs off l) st.bx) j).isSome = (findB st.bx j).isSome := fun j => by
        rw [findB_setB]; split
        · rename_i e; subst e; simp [hf]
        · rfl
      have hNi : NB N0 β st.bx st.ow (β.b i) := .inr (.inl ⟨i, by rw [hf]; rfl, rfl⟩)
      generalize hw' : w.setRow (β.b i) _ = w' at *
      have hsize : w'.heap.size = w.heap.size := by rw [← hw']; simp [World.setRow]
      have hother : ∀ k, k ≠ β.b i → w'.heap[k]? = w.heap[k]? := fun k hk => by rw [← hw']; exact setRow_other w (β.b i) k _ hk
      have hsame : Same (NB N0 β st.bx st.ow) w w' := ⟨by rw [hsize]; exact Nat.le_refl _, fun k _ hN => hother k (fun e => hN (e ▸ hNi))⟩
      have hlss : ∀ b, b < w'.heap.size → NB N0 β (setB i (T, layAt cs off l) st.bx) st.ow b → NB N0 β st.bx st.ow b := fun b _ hb => (hNBeq b).1 hb
      refine ⟨⟨?_, ?_, ?_, ?_, ?_⟩, h.size, h.defers, fun s x hx => ((h.slots s x hx).same hsame).less hlss, fun s g p x hx => ((h.guards s g p x hx).same hsame).less hlss, ?_, ?_, ?_, h.outer, ?_, h.odist, ?_, h.onx⟩
      · rw [← hw']; exact h.keeps.os
      · rw [← hw']; exact h.keeps.tape
      · rw [← hw']; exact h.keeps.output
      · rw [hsize]; exact h.keeps.size
      · intro k hk hF
        rw [hother k ?_]
        · exact h.keeps.block k hk hF
        · intro e
          rcases h.own i (by rw [hf]; rfl) with hh | hh
          · omega
          · exact hF (e ▸ hh)
      · intro j T' cs' hf'
        rw [findB_setB] at hf'
        by_cases e : j = i
        · subst e
          rw [if_pos rfl, hf] at hf'
          simp only [Option.map_some, Option.some.injEq, Prod.mk.injEq] at hf'
          obtain ⟨rfl, rfl⟩ := hf'
          have hlay := Cells.layAt (off := off) u2 hc
          refine ⟨_, by rw [← hw']; exact setRow_heap w (β.b j) _ _ _ _ u1, ?_, ?_⟩
          · exact ⟨by simpa using hlay.1, fun k x v hx hv => ((hlay.2 k x v hx (by simpa using hv)).same hsame).less hlss⟩
          · intro v hv
            simp only [List.append_assoc, List.mem_append] at hv
            rcases hv with hv | hv | hv
            · exact u3 v (List.mem_of_mem_take hv)
            · exact hone v hv
            · exact u3 v (List.mem_of_mem_drop hv)
        · rw [if_neg e] at hf'
          obtain ⟨ts, t1, t2, t3⟩ := h.boxes j T' cs' hf'
          have hne : β.b j ≠ β.b i := fun hh => e (h.inj j i (by rw [hf']; rfl) (by rw [hf]; rfl) hh)
          exact ⟨ts, by rw [hother _ hne]; exact t1, ⟨t2.1, fun k x v hx hv => ((t2.2 k x v hx hv).same hsame).less hlss⟩, t3⟩
      · intro j k hj hk; rw [hiso] at hj hk; exact h.inj j k hj hk
      · intro j hj; rw [hiso] at hj; exact h.own j hj
      · exact (h.owns.same hsame (fun j b hj hb => hother b (fun e => h.obox j i hj (by rw [hf]; rfl) (by rw [hb, e])))).less hlss
      · intro j k hj hk; rw [hiso] at hk; exact h.obox j k hj hk
    · cases hs
  · cases hs

end
end Go.Sim
