/- Tables of contracts; states made smaller. Conditions: none. -/
import Derived.Test.YtekifbnnkcgipaaDoorSimM
namespace Go.Sim

/-- One function's contract: for which data it speaks, under which conditions, and what is returned. -/
abbrev Entry := List RV → Res
def EntryOk (P : Program) (g : FuncId) (f : Entry) : Prop := Enters P g ∧ ∀ args ps x, f args = some (ps, x) → (∀ p ∈ ps, p) → Pure P g args x

def table (l : List (Nat × Entry)) : Spec := fun g args => match findB l g with
  | some f => f args
  | none => none

def AllOk (P : Program) : List (Nat × Entry) → Prop
  | [] => True
  | (g, f) :: l => EntryOk P g f ∧ AllOk P l

theorem allOk_mem {P : Program} : ∀ {l : List (Nat × Entry)} {g : Nat} {f : Entry}, AllOk P l → (g, f) ∈ l → EntryOk P g f
  | (k, e) :: l, g, f, h, hm => by
    rcases List.mem_cons.1 hm with hm | hm
    · obtain ⟨rfl, rfl⟩ := Prod.mk.inj hm; exact h.1
    · exact allOk_mem h.2 hm

theorem table_ok {P : Program} {l : List (Nat × Entry)} (h : AllOk P l) : SpecOk P (table l) := by
  intro g args ps x hs hp
  unfold table at hs
  split at hs
  · rename_i f hf
    obtain ⟨h1, h2⟩ := allOk_mem h (findB_mem hf)
    exact ⟨h1, h2 args ps x hs hp⟩
  · cases hs

/-- The entries of the slots in ss alone. -/
def keepL (sl : List (Nat × SV)) : List Nat → List (Nat × SV)
  | [] => []
  | s :: l => match findB sl s with
    | some x => (s, x) :: keepL sl l
    | none => keepL sl l
def St.keep (st : St) (ss : List Nat) : St := ⟨st.n, keepL st.sl ss, [], st.bx, st.ow, st.nx⟩

theorem keepL_find {sl : List (Nat × SV)} {s : Nat} {x : SV} : ∀ {ss : List Nat}, findB (keepL sl ss) s = some x → findB sl s = some x
  | t :: l, h => by
    simp only [keepL] at h
    split at h
    · rename_i y hy
      rw [findB_cons] at h
      split at h
      · rename_i e; subst e; rw [← h]; exact hy
      · exact keepL_find h
    · exact keepL_find h

theorem weaker_keep (st : St) (ss : List Nat) : Weaker st (st.keep ss) := fun _ _ _ β _ _ h =>
  ⟨β, h.keeps, h.size, h.defers, fun s x hx => h.slots s x (keepL_find hx), fun s g p x hx => (by cases hx), h.boxes, h.inj, h.own, h.outer, h.owns, h.odist, h.obox, h.onx⟩
theorem Weaker.refl (st : St) : Weaker st st := fun _ _ _ β _ _ h => ⟨β, h⟩
theorem Weaker.trans {a b c : St} (h : Weaker a b) (h' : Weaker b c) : Weaker a c := fun W N0 F β x w hr => let ⟨β', hr'⟩ := h W N0 F β x w hr; h' W N0 F β' x w hr'
/-- By the entries that are kept. -/
theorem weaker_of {st st' : St} (ss : List Nat) (h : st.keep ss = st') : Weaker st st' := h ▸ weaker_keep st ss

/-- Without the boxes in ds (no entry that is left names them, or they are not looked at again). -/
def dropB (ds : List Nat) : List (Nat × TypeId × List RV) → List (Nat × TypeId × List RV)
  | [] => []
  | (k, x) :: l => match ds.elem k with
    | true => dropB ds l
    | false => (k, x) :: dropB ds l

theorem findB_dropB {ds : List Nat} {i : Nat} {c : TypeId × List RV} : ∀ {l : List (Nat × TypeId × List RV)}, findB (dropB ds l) i = some c → ∃ c', findB l i = some c'
  | (k, x) :: l, h => by
    simp only [dropB] at h
    simp only [findB]
    split
    · exact ⟨_, rfl⟩
    · rename_i hk
      split at h
      · exact findB_dropB h
      · simp only [findB, hk] at h
        exact findB_dropB h

/-- The end of a body, by the result as it stands. -/
theorem ends_ret {τ : Tab} {rs : Array ResultVar} {x y : SV} {st : St} (h : y = x) (hr : result τ st.freeze rs = some y) : Ends τ rs x .ret st := ⟨trivial, h ▸ hr⟩
theorem ends_normal {τ : Tab} {rs : Array ResultVar} {x y : SV} {st : St} (h : y = x) (hr : result τ st.freeze rs = some y) : Ends τ rs x .normal st := ⟨trivial, h ▸ hr⟩

/-- A loop: the relation at the head by a measure, the slots that are kept, what the body owes. -/
theorem loopVC_intro {body : St → (Exit → St → Prop) → Prop} {st : St} {Q : Exit → St → Prop} (I : Nat → St → Prop) (n : Nat) (s : St) (h0 : Weaker st s) (hI : I n s)
    (hb : ∀ n s, I n s → body s (fun e s' => match e with
      | .normal => ∃ m s2, m < n ∧ Weaker s' s2 ∧ I m s2
      | e => Q e s')) : loopVC body st Q := ⟨I, ⟨n, s, h0, hI⟩, hb⟩

end Go.Sim
