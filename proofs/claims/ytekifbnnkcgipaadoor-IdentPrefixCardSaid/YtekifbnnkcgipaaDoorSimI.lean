/- States of the interpreter: slots, boxes, and what they stand for. Conditions: none. -/
import Derived.Test.YtekifbnnkcgipaaDoorSimH
import Derived.Laws.AppendOwn
namespace Go.Sim
open Go.RowKit (Below)

/-- The frame's length; entries of slots, the newest first; entries that hold where a guard holds (of the region at hand); boxes; rows that the call owns (a slice that it made by append), and a number that names none of them. -/
structure Own where
  e : TypeId
  sz : Nat
  n : Nat
  f : Nat → RV
structure St where
  n : Nat
  sl : List (Nat × SV)
  gl : List (Nat × Nat × Bool × SV)
  bx : List (Nat × TypeId × List RV)
  ow : List (Nat × Own)
  nx : Nat

def sameB : Bool → Bool → Bool
  | true, true => true
  | false, false => true
  | _, _ => false
theorem sameB_eq {a b : Bool} (h : sameB a b = true) : a = b := by cases a <;> cases b <;> simp_all [sameB]

def hasG : List (Nat × Bool) → Nat → Bool → Bool
  | [], _, _ => false
  | (h, q) :: l, g, p => (Nat.beq h g && sameB q p) || hasG l g p
theorem hasG_mem : ∀ {l : List (Nat × Bool)} {g : Nat} {p : Bool}, hasG l g p = true → (g, p) ∈ l
  | (h, q) :: l, g, p, hh => by
    simp only [hasG, Bool.or_eq_true, Bool.and_eq_true] at hh
    rcases hh with ⟨h1, h2⟩ | h1
    · rw [Nat.eq_of_beq_eq_true h1, sameB_eq h2]; exact List.mem_cons_self
    · exact List.mem_cons_of_mem _ (hasG_mem h1)

/-- What a slot's entry is under guards that hold. -/
def unG (G : List (Nat × Bool)) : Option SV → Option SV
  | some (.grd g p x) => match hasG G g p with
    | true => some x
    | false => none
  | r => r

def lookF (find : Nat → Option SV) (G : List (Nat × Bool)) : Operand → Option SV
  | .tmp t => unG G (find t)
  | .const v => some (.d (ofVal v))
  | .func f => some (.d (.val (.func (.func f) #[] #[])))
  | .global g => some (.d (.val (.pointer (some ⟨g, 0, none⟩))))

def St.find (st : St) (s : Nat) : Option SV :=
  match findB st.gl s with
  | some (g, p, x) => some (.grd g p x)
  | none => findB st.sl s
def St.look (st : St) : List (Nat × Bool) → Operand → Option SV := lookF st.find

def isG : SV → Bool
  | .grd _ _ _ => true
  | _ => false

/-- No entry is guarded by slot d. -/
def noGuard (d : Nat) : List (Nat × Nat × Bool × SV) → Bool
  | [] => true
  | (_, g, _, _) :: l => match Nat.beq g d with
    | true => false
    | false => noGuard d l
theorem noGuard_ok {d : Nat} : ∀ {l : List (Nat × Nat × Bool × SV)} {s g : Nat} {p : Bool} {x : SV}, noGuard d l = true → (s, g, p, x) ∈ l → g ≠ d
  | (k, h, q, y) :: l, s, g, p, x, hh, hm => by
    simp only [noGuard] at hh
    split at hh
    · cases hh
    · rename_i hc
      rcases List.mem_cons.1 hm with hm | hm
      · simp only [Prod.mk.injEq] at hm
        obtain ⟨_, rfl, _, _⟩ := hm
        intro e; rw [e] at hc; simp at hc
      · exact noGuard_ok hh hm

def isNone {α : Type} : Option α → Bool
  | none => true
  | some _ => false
theorem isNone_eq {α : Type} {x : Option α} (h : isNone x = true) : x = none := by cases x <;> simp_all [isNone]

/-- Slot d is written. -/
def St.put (st : St) (d : Nat) (x : SV) : Option St :=
  match Nat.blt d st.n && isNone (findB st.gl d) && noGuard d st.gl with
  | true => some ⟨st.n, (d, x) :: st.sl, st.gl, st.bx, st.ow, st.nx⟩
  | false => none
/-- Slot d is written where slot g holds p. -/
def St.putG (st : St) (d g : Nat) (p : Bool) (x : SV) : Option St :=
  match Nat.blt d st.n && isNone (findB st.sl d) && noGuard d st.gl && !(Nat.beq d g) with
  | true => some ⟨st.n, st.sl, (d, g, p, x) :: st.gl, st.bx, st.ow, st.nx⟩
  | false => none

def St.clean (st : St) : St := ⟨st.n, st.sl, [], st.bx, st.ow, st.nx⟩

theorem findB_mem {α : Type} {t : Nat} {x : α} : ∀ {l : List (Nat × α)}, findB l t = some x → (t, x) ∈ l
  | [], h => by cases h
  | (k, y) :: l, h => by
    simp only [findB] at h
    split at h
    · rename_i hk
      simp only [Option.some.injEq] at h
      rw [Nat.eq_of_beq_eq_true hk, h]; exact List.mem_cons_self
    · exact List.mem_cons_of_mem _ (findB_mem h)

theorem findB_cons {α : Type} {d : Nat} {x : α} {l : List (Nat × α)} (s : Nat) : findB ((d, x) :: l) s = if s = d then some x else findB l s := by
  simp only [findB]
  cases hk : Nat.beq d s with
  | true => rw [if_pos (Nat.eq_of_beq_eq_true hk).symm]
  | false => rw [if_neg (fun e => by rw [e] at hk; simp at hk)]

/-- What stands in slot s. -/
def SlotOk (β : Envr) (N : Nat → Prop) (a : Act) (w : World) (s : Nat) : SV → Prop
  | .grd g p y => (tv a g = .bool p → SDen β N w y (tv a s)) ∧ (tv a g ≠ .bool p → tv a s = undef)
  | x => SDen β N w x (tv a s)

/-- What the call may have written of what was there before it: blocks of F. -/
structure Keeps (F : Nat → Prop) (W w : World) : Prop where
  os : w.os = W.os
  tape : w.tape = W.tape
  output : w.output = W.output
  size : W.heap.size ≤ w.heap.size
  block : ∀ k, k < W.heap.size → ¬ F k → w.heap[k]? = W.heap[k]?

theorem Keeps.refl (F : Nat → Prop) (w : World) : Keeps F w w := ⟨rfl, rfl, rfl, Nat.le_refl _, fun _ _ _ => rfl⟩
theorem Keeps.below {F : Nat → Prop} {W w w' : World} (h : Keeps F W w) (hb : Below w.heap.size w w') : Keeps F W w' :=
  ⟨hb.os.trans h.os, hb.tape.trans h.tape, hb.output.trans h.output, Nat.le_trans h.size hb.size, fun k hk hF => (hb.block k (Nat.lt_of_lt_of_le hk h.size)).trans (h.block k hk hF)⟩
theorem Keeps.to_below {W w : World} (h : Keeps (fun _ => False) W w) : Below W.heap.size W w := ⟨h.os, h.tape, h.output, h.size, fun k hk => h.block k hk (fun f => f)⟩

/-- The blocks that no slice of the state lies in. -/
def NB (N0 : Nat → Prop) (β : Envr) (bx : List (Nat × TypeId × List RV)) (ow : List (Nat × Own)) (b : Nat) : Prop :=
  N0 b ∨ (∃ i, (findB bx i).isSome = true ∧ β.b i = b) ∨ (∃ i, (findB ow i).isSome = true ∧ (β.r i).ownBlock = some b)

/-- The rows that the call owns hold what is said. -/
def OwnsOk (base : Nat) (β : Envr) (N : Nat → Prop) (w : World) (ow : List (Nat × Own)) : Prop :=
  ∀ i o, findB ow i = some o → ∃ xs : List Value, w.ownsRow base o.e o.sz (β.r i) o.n xs ∧ (∀ k, k < o.n → (o.f k).cells.length = o.sz) ∧
    (∀ (k j : Nat) x v, k < o.n → (o.f k).cells[j]? = some x → xs[k * o.sz + j]? = some v → RDen N w x v) ∧ (∀ v ∈ xs, v.oneCell' = true)

theorem ownsRow_turn {w w' : World} {base : Nat} {e : TypeId} {size n : Nat} {v : Value} {xs : List Value} (h : w.ownsRow base e size v n xs) (hb : ∀ b, v.ownBlock = some b → w'.heap[b]? = w.heap[b]?) : w'.ownsRow base e size v n xs := by
  refine ⟨h.1, ?_⟩
  rcases h.2 with h2 | ⟨g, cap, cur, hv, hg, hh, r⟩
  · exact .inl h2
  · exact .inr ⟨g, cap, cur, hv, hg, by rw [hb g (by rw [hv]; rfl)]; exact hh, r⟩

theorem OwnsOk.same {base : Nat} {β : Envr} {N : Nat → Prop} {w w' : World} {ow : List (Nat × Own)} (h : OwnsOk base β N w ow) (hw : Same N w w') (hb : ∀ i b, (findB ow i).isSome = true → (β.r i).ownBlock = some b → w'.heap[b]? = w.heap[b]?) : OwnsOk base β N w' ow := by
  intro i o hi
  obtain ⟨xs, h1, h2, h3, h4⟩ := h i o hi
  exact ⟨xs, ownsRow_turn h1 (fun b hbb => hb i b (by rw [hi]; rfl) hbb), h2, fun k j x v hk hx hv => (h3 k j x v hk hx hv).same hw, h4⟩

theorem OwnsOk.less {base : Nat} {β : Envr} {N N' : Nat → Prop} {w : World} {ow : List (Nat × Own)} (h : OwnsOk base β N w ow) (hN : ∀ b, b < w.heap.size → N' b → N b) : OwnsOk base β N' w ow := by
  intro i o hi
  obtain ⟨xs, h1, h2, h3, h4⟩ := h i o hi
  exact ⟨xs, h1, h2, fun k j x v hk hx hv => (h3 k j x v hk hx hv).less hN, h4⟩

/-- State st stands for frame a and world w; the call began in world W. -/
structure Rel (W : World) (N0 F : Nat → Prop) (st : St) (β : Envr) (a : Act) (w : World) : Prop where
  keeps : Keeps F W w
  size : a.tmps.size = st.n
  defers : a.defers = []
  slots : ∀ s x, findB st.sl s = some x → SDen β (NB N0 β st.bx st.ow) w x (tv a s)
  guards : ∀ s g p x, findB st.gl s = some (g, p, x) → SlotOk β (NB N0 β st.bx st.ow) a w s (.grd g p x)
  boxes : BoxOk β (NB N0 β st.bx st.ow) w st.bx
  inj : ∀ i j, (findB st.bx i).isSome = true → (findB st.bx j).isSome = true → β.b i = β.b j → i = j
  own : ∀ i, (findB st.bx i).isSome = true → W.heap.size ≤ β.b i ∨ F (β.b i)
  outer : ∀ b, N0 b → b < W.heap.size
  owns : OwnsOk W.heap.size β (NB N0 β st.bx st.ow) w st.ow
  odist : ∀ i j b, (findB st.ow i).isSome = true → (findB st.ow j).isSome = true → (β.r i).ownBlock = some b → (β.r j).ownBlock = some b → i = j
  obox : ∀ i j, (findB st.ow i).isSome = true → (findB st.bx j).isSome = true → (β.r i).ownBlock ≠ some (β.b j)
  onx : ∀ i, (findB st.ow i).isSome = true → i < st.nx

theorem OwnsOk.lt {base : Nat} {β : Envr} {N : Nat → Prop} {w : World} {ow : List (Nat × Own)} (h : OwnsOk base β N w ow) {i b : Nat} (hi : (findB ow i).isSome = true) (hb : (β.r i).ownBlock = some b) : base ≤ b ∧ b < w.heap.size := by
  cases hf : findB ow i with
  | none => rw [hf] at hi; cases hi
  | some o =>
    obtain ⟨xs, h1, _⟩ := h i o hf
    exact h1.lt b hb

theorem Rel.NB_lt {W : World} {N0 F : Nat → Prop} {st : St} {β : Envr} {a : Act} {w : World} (h : Rel W N0 F st β a w) : ∀ b, NB N0 β st.bx st.ow b → b < w.heap.size := by
  rintro b (hb | ⟨i, hi, rfl⟩ | ⟨i, hi, hb⟩)
  · exact Nat.lt_of_lt_of_le (h.outer b hb) h.keeps.size
  · cases hf : findB st.bx i with
    | none => rw [hf] at hi; cases hi
    | some p =>
      obtain ⟨vs, hv, _⟩ := h.boxes i p.1 p.2 hf
      exact (Array.getElem?_eq_some_iff.1 hv).1
  · exact (h.owns.lt hi hb).2

theorem tv_put_same {a : Act} {d : Nat} {v : Value} (h : d < a.tmps.size) : tv (a.put (some d) v) d = v := by
  unfold tv Act.put
  simp [Array.getD, h]
theorem tv_put_other {a : Act} {d s : Nat} {v : Value} (h : s ≠ d) : tv (a.put (some d) v) s = tv a s := by
  simp only [tv, Act.put, Array.getD_eq_getD_getElem?, Array.getElem?_setIfInBounds_ne (Ne.symm h)]
theorem put_size {a : Act} {d : Option Nat} {v : Value} : (a.put d v).tmps.size = a.tmps.size := by
  cases d <;> simp [Act.put]
theorem put_defers' {a : Act} {d : Option Nat} {v : Value} : (a.put d v).defers = a.defers := by
  cases d <;> rfl

/-- What an entry says of slot s holds of another frame that agrees on s and on the guard. -/
theorem SlotOk.turn {β : Envr} {N : Nat → Prop} {a a' : Act} {w : World} {s : Nat} {x : SV} (h : SlotOk β N a w s x) (hs : tv a' s = tv a s) (hg : ∀ g p y, x = .grd g p y → tv a' g = tv a g) : SlotOk β N a' w s x := by
  cases x with
  | grd g p y =>
    have := hg g p y rfl
    simp only [SlotOk] at *
    rw [this, hs]; exact h
  | d x => simp only [SlotOk] at *; rw [hs]; exact h
  | loc i o => simp only [SlotOk] at *; rw [hs]; exact h
  | elem sz n f i o => simp only [SlotOk] at *; rw [hs]; exact h
  | tup l => simp only [SlotOk] at *; rw [hs]; exact h
  | own i => simp only [SlotOk] at *; rw [hs]; exact h

theorem SlotOk.same {β : Envr} {N : Nat → Prop} {a : Act} {w w' : World} {s : Nat} {x : SV} (hw : Same N w w') (h : SlotOk β N a w s x) : SlotOk β N a w' s x := by
  cases x with
  | grd g p y => exact ⟨fun e => (h.1 e).same hw, h.2⟩
  | d x => exact SDen.same hw h
  | loc i o => exact SDen.same hw h
  | elem sz n f i o => exact SDen.same hw h
  | tup l => exact SDen.same hw h
  | own i => exact SDen.same hw h

theorem SlotOk.of_den {β : Envr} {N : Nat → Prop} {a : Act} {w : World} {s : Nat} {x : SV} (h : SDen β N w x (tv a s)) : SlotOk β N a w s x := by
  cases x with
  | grd g p y => cases h
  | d x => exact h
  | loc i o => exact h
  | elem sz n f i o => exact h
  | tup l => exact h
  | own i => exact h

theorem SlotOk.den {β : Envr} {N : Nat → Prop} {a : Act} {w : World} {s : Nat} {x : SV} (h : SlotOk β N a w s x) (hx : isG x = false) : SDen β N w x (tv a s) := by
  cases x with
  | grd g p y => cases hx
  | d x => exact h
  | loc i o => exact h
  | elem sz n f i o => exact h
  | tup l => exact h
  | own i => exact h

theorem BoxOk.same {β : Envr} {N : Nat → Prop} {w w' : World} {bx : List (Nat × TypeId × List RV)} (hw : Same N w w') (hb : ∀ i, (findB bx i).isSome = true → w'.heap[β.b i]? = w.heap[β.b i]?) (h : BoxOk β N w bx) : BoxOk β N w' bx := by
  intro i T cs hf
  obtain ⟨vs, h1, h2, h3⟩ := h i T cs hf
  exact ⟨vs, by rw [hb i (by rw [hf]; rfl)]; exact h1, ⟨h2.1, fun j x v hx hv => (h2.2 j x v hx hv).same hw⟩, h3⟩

/-- After a call that makes new blocks alone. -/
theorem Rel.below {W : World} {N0 F : Nat → Prop} {st : St} {β : Envr} {a : Act} {w w' : World} (h : Rel W N0 F st β a w) (hb : Below w.heap.size w w') : Rel W N0 F st β a w' := by
  have hs : Same (NB N0 β st.bx st.ow) w w' := .of_below hb
  refine ⟨h.keeps.below hb, h.size, h.defers, fun s x hx => (h.slots s x hx).same hs, fun s g p x hx => (h.guards s g p x hx).same hs, h.boxes.same hs (fun i hi => hb.block _ (h.NB_lt _ (.inr (.inl ⟨i, hi, rfl⟩)))), h.inj, h.own, h.outer,
    h.owns.same hs (fun i b hi hb' => hb.block _ (h.owns.lt hi hb').2), h.odist, h.obox, h.onx⟩

/-- A slot is written. -/
theorem Rel.put {W : World} {N0 F : Nat → Prop} {st st' : St} {β : Envr} {a : Act} {w : World} (h : Rel W N0 F st β a w) {d : Nat} {x : SV} (hs : st.put d x = some st') {v : Value}
    (hx : SDen β (NB N0 β st.bx st.ow) w x v) : Rel W N0 F st' β (a.put (some d) v) w := by
  unfold St.put at hs
  split at hs
  · rename_i hc
    simp only [Bool.and_eq_true] at hc
    simp only [Option.some.injEq] at hs; subst hs
    have hd : d < st.n := Nat.le_of_ble_eq_true hc.1.1
    refine ⟨h.keeps, by rw [put_size]; exact h.size, by rw [put_defers']; exact h.defers, fun s y hy => ?_, fun s g p y hy => ?_, h.boxes, h.inj, h.own, h.outer, h.owns, h.odist, h.obox, h.onx⟩
    · simp only [findB_cons] at hy
      split at hy
      · rename_i e
        simp only [Option.some.injEq] at hy; subst hy; subst e
        rw [tv_put_same (by rw [h.size]; exact hd)]; exact hx
      · rename_i e
        rw [tv_put_other e]; exact h.slots s y hy
    · have hne : s ≠ d := fun e => by rw [e, isNone_eq hc.1.2] at hy; cases hy
      exact (h.guards s g p y hy).turn (tv_put_other hne) (fun g' p' z e => tv_put_other (by
        obtain ⟨rfl, _, _⟩ := SV.grd.inj e
        exact noGuard_ok hc.2 (findB_mem hy)))
  · cases hs

theorem Rel.putG {W : World} {N0 F : Nat → Prop} {st st' : St} {β : Envr} {a : Act} {w : World} (h : Rel W N0 F st β a w) {d g : Nat} {p : Bool} {x : SV} (hs : st.putG d g p x = some st') {v : Value}
    (hx : SlotOk β (NB N0 β st.bx st.ow) (a.put (some d) v) w d (.grd g p x)) : Rel W N0 F st' β (a.put (some d) v) w := by
  unfold St.putG at hs
  split at hs
  · rename_i hc
    simp only [Bool.and_eq_true] at hc
    simp only [Option.some.injEq] at hs; subst hs
    refine ⟨h.keeps, by rw [put_size]; exact h.size, by rw [put_defers']; exact h.defers, fun s y hy => ?_, fun s g' p' y hy => ?_, h.boxes, h.inj, h.own, h.outer, h.owns, h.odist, h.obox, h.onx⟩
    · have hne : s ≠ d := fun e => by
        have hy' : findB st.sl s = some y := hy
        rw [e, isNone_eq hc.1.1.2] at hy'; cases hy'
      rw [tv_put_other hne]; exact h.slots s y hy
    · simp only [findB_cons] at hy
      split at hy
      · rename_i e
        simp only [Option.some.injEq, Prod.mk.injEq] at hy
        obtain ⟨rfl, rfl, rfl⟩ := hy
        subst e
        exact hx
      · rename_i e
        exact (h.guards s g' p' y hy).turn (tv_put_other e) (fun g2 p2 z e2 => tv_put_other (by
          obtain ⟨rfl, _, _⟩ := SV.grd.inj e2
          exact noGuard_ok hc.1.2 (findB_mem hy)))
  · cases hs

theorem Rel.clean {W : World} {N0 F : Nat → Prop} {st : St} {β : Envr} {a : Act} {w : World} (h : Rel W N0 F st β a w) : Rel W N0 F st.clean β a w :=
  ⟨h.keeps, h.size, h.defers, h.slots, fun s g p x hx => (by cases hx), h.boxes, h.inj, h.own, h.outer, h.owns, h.odist, h.obox, h.onx⟩

theorem Rel.find_ok {W : World} {N0 F : Nat → Prop} {st : St} {β : Envr} {a : Act} {w : World} (h : Rel W N0 F st β a w) : ∀ s x, st.find s = some x → SlotOk β (NB N0 β st.bx st.ow) a w s x := by
  intro s x hx
  unfold St.find at hx
  split at hx
  · rename_i g p y hy
    simp only [Option.some.injEq] at hx; subst hx
    exact h.guards s g p y hy
  · exact SlotOk.of_den (h.slots s x hx)

/-- What an operand is looked up as is what it evaluates to. -/
theorem lookF_ok {β : Envr} {N : Nat → Prop} {a : Act} {w : World} {find : Nat → Option SV} (hf : ∀ s x, find s = some x → SlotOk β N a w s x) {G : List (Nat × Bool)} (hG : ∀ gp ∈ G, tv a gp.1 = .bool gp.2)
    {x : Operand} {s : SV} (h : lookF find G x = some s) : SDen β N w s (a.eval x) := by
  cases x with
  | tmp t =>
    simp only [lookF] at h
    cases hft : find t with
    | none => rw [hft] at h; cases h
    | some y =>
      rw [hft] at h
      have hy := hf t y hft
      cases y with
      | grd g p z =>
        simp only [unG] at h
        split at h
        · rename_i hh
          simp only [Option.some.injEq] at h; subst h
          exact hy.1 (hG _ (hasG_mem hh))
        · cases h
      | d z => simp only [unG, Option.some.injEq] at h; subst h; exact hy
      | loc i o => simp only [unG, Option.some.injEq] at h; subst h; exact hy
      | elem sz n f i o => simp only [unG, Option.some.injEq] at h; subst h; exact hy
      | tup l => simp only [unG, Option.some.injEq] at h; subst h; exact hy
      | own i => simp only [unG, Option.some.injEq] at h; subst h; exact hy
  | const v => simp only [lookF, Option.some.injEq] at h; subst h; exact .d (ofVal_ok v)
  | func f => simp only [lookF, Option.some.injEq] at h; subst h; exact .d (.val _)
  | global g => simp only [lookF, Option.some.injEq] at h; subst h; exact .d (.val _)

theorem St.look_ok {W : World} {N0 F : Nat → Prop} {st : St} {β : Envr} {a : Act} {w : World} (h : Rel W N0 F st β a w) {G : List (Nat × Bool)} (hG : ∀ gp ∈ G, tv a gp.1 = .bool gp.2) {x : Operand} {s : SV}
    (hx : st.look G x = some s) : SDen β (NB N0 β st.bx st.ow) w s (a.eval x) :=
  lookF_ok h.find_ok hG hx

end Go.Sim
