/- A small interpreter over symbolic data for straight pieces of a translated program, and what its data stand for in memory. Conditions: none. -/
import Derived.Below
import Derived.Orders
import Derived.KernelRfl
import Derived.Tactics
namespace Go.Sim
open Go.RowKit (Below)

/-- Data: a value of one cell; a slice that reads as n elements of sz cells; a struct or an array, cell by cell. -/
inductive RV where
  | val (v : Value)
  | nil
  | row (sz n : Nat) (f : Nat → RV)
  | agg (l : List RV)

instance : Inhabited RV := ⟨.val undef⟩

def RV.cells : RV → List RV
  | .agg l => l
  | x => [x]

/-- What a slot may hold. -/
inductive SV where
  | d (x : RV)
  | loc (i off : Nat)
  | elem (sz n : Nat) (f : Nat → RV) (i off : Nat)
  | tup (l : List SV)
  | own (i : Nat)
  | grd (g : Nat) (p : Bool) (x : SV)

/-- In world w the value v is what x says; no slice in it lies in a block of N. -/
inductive RDen (N : Nat → Prop) (w : World) : RV → Value → Prop
  | val (v : Value) : RDen N w (.val v) v
  | none : RDen N w .nil (.slice none 0 0)
  | nil (sz : Nat) (f : Nat → RV) : RDen N w (.row sz 0 f) (.slice none 0 0)
  | row (sz n : Nat) (f : Nat → RV) (b o cap : Nat) (c : Nat → Nat → Value) (hcap : n ≤ cap) (hb : b < w.heap.size) (hN : ¬ N b)
      (hsz : ∀ k, k < n → (f k).cells.length = sz)
      (hc : ∀ k j, k < n → j < sz → w.cell? ⟨b, o + (k * sz + j), none⟩ = some (c k j))
      (ho : ∀ k j, k < n → j < sz → (c k j).oneCell' = true)
      (hd : ∀ (k j : Nat) x, k < n → (f k).cells[j]? = some x → RDen N w x (c k j)) : RDen N w (.row sz n f) (.slice (some ⟨b, o, none⟩) n cap)
  | agg (l : List RV) (vs : List Value) (hl : vs.length = l.length) (hd : ∀ (j : Nat) x v, l[j]? = some x → vs[j]? = some v → RDen N w x v) : RDen N w (.agg l) (.agg vs.toArray)

/-- The blocks of boxes, and the values of the rows that the call owns. -/
structure Envr where
  b : Nat → Nat
  r : Nat → Value

inductive SDen (β : Envr) (N : Nat → Prop) (w : World) : SV → Value → Prop
  | d {x : RV} {v : Value} (h : RDen N w x v) : SDen β N w (.d x) v
  | loc (i off : Nat) : SDen β N w (.loc i off) (.pointer (some ⟨β.b i, off, none⟩))
  | own (i : Nat) : SDen β N w (.own i) (β.r i)
  | elem (sz n : Nat) (f : Nat → RV) (i off : Nat) (b o : Nat) (c : Nat → Nat → Value) (hi : i < n) (hb : b < w.heap.size) (hN : ¬ N b)
      (hsz : ∀ k, k < n → (f k).cells.length = sz)
      (hc : ∀ k j, k < n → j < sz → w.cell? ⟨b, o + (k * sz + j), none⟩ = some (c k j))
      (ho : ∀ k j, k < n → j < sz → (c k j).oneCell' = true)
      (hd : ∀ (k j : Nat) x, k < n → (f k).cells[j]? = some x → RDen N w x (c k j)) : SDen β N w (.elem sz n f i off) (.pointer (some ⟨b, o + (i * sz + off), none⟩))
  | tup (l : List SV) (vs : List Value) (hl : vs.length = l.length) (hd : ∀ (j : Nat) x v, l[j]? = some x → vs[j]? = some v → SDen β N w x v) : SDen β N w (.tup l) (.tuple vs.toArray)

/-- Every block of w outside N' is in w' as it was. -/
def Same (N : Nat → Prop) (w w' : World) : Prop := w.heap.size ≤ w'.heap.size ∧ ∀ k, k < w.heap.size → ¬ N k → w'.heap[k]? = w.heap[k]?

theorem Same.of_below {N : Nat → Prop} {w w' : World} (h : Below w.heap.size w w') : Same N w w' := ⟨h.size, fun k hk _ => h.block k hk⟩
theorem Same.cell {N : Nat → Prop} {w w' : World} (h : Same N w w') {b : Nat} (hb : b < w.heap.size) (hN : ¬ N b) (o : Nat) : w'.cell? ⟨b, o, none⟩ = w.cell? ⟨b, o, none⟩ := by
  unfold World.cell?
  rw [h.2 b hb hN]

theorem RDen.same {N : Nat → Prop} {w w' : World} (hw : Same N w w') {x : RV} {v : Value} (h : RDen N w x v) : RDen N w' x v := by
  induction h with
  | val v => exact .val v
  | none => exact .none
  | nil sz f => exact .nil sz f
  | row sz n f b o cap c hcap hb hN hsz hc ho hd ih =>
    exact .row sz n f b o cap c hcap (Nat.lt_of_lt_of_le hb hw.1) hN hsz (fun k j hk hj => by rw [hw.cell hb hN]; exact hc k j hk hj) ho ih
  | agg l vs hl hd ih => exact .agg l vs hl ih

/-- Fewer forbidden blocks. -/
theorem RDen.less {N N' : Nat → Prop} {w : World} (hN : ∀ b, b < w.heap.size → N' b → N b) {x : RV} {v : Value} (h : RDen N w x v) : RDen N' w x v := by
  induction h with
  | val v => exact .val v
  | none => exact .none
  | nil sz f => exact .nil sz f
  | row sz n f b o cap c hcap hb hn hsz hc ho hd ih => exact .row sz n f b o cap c hcap hb (fun h => hn (hN b hb h)) hsz hc ho ih
  | agg l vs hl hd ih => exact .agg l vs hl ih

theorem SDen.same {β : Envr} {N : Nat → Prop} {w w' : World} (hw : Same N w w') {x : SV} {v : Value} (h : SDen β N w x v) : SDen β N w' x v := by
  induction h with
  | d h => exact .d (h.same hw)
  | loc i off => exact .loc i off
  | own i => exact .own i
  | elem sz n f i off b o c hi hb hN hsz hc ho hd =>
    exact .elem sz n f i off b o c hi (Nat.lt_of_lt_of_le hb hw.1) hN hsz (fun k j hk hj => by rw [hw.cell hb hN]; exact hc k j hk hj) ho (fun k j x hk hx => (hd k j x hk hx).same hw)
  | tup l vs hl hd ih => exact .tup l vs hl ih

theorem SDen.less {β : Envr} {N N' : Nat → Prop} {w : World} (hN : ∀ b, b < w.heap.size → N' b → N b) {x : SV} {v : Value} (h : SDen β N w x v) : SDen β N' w x v := by
  induction h with
  | d h => exact .d (h.less hN)
  | loc i off => exact .loc i off
  | own i => exact .own i
  | elem sz n f i off b o c hi hb hn hsz hc ho hd => exact .elem sz n f i off b o c hi hb (fun h => hn (hN b hb h)) hsz hc ho (fun k j x hk hx => (hd k j x hk hx).less hN)
  | tup l vs hl hd ih => exact .tup l vs hl ih

/-- The world has turned in blocks that nothing lies in, and others may be forbidden now. -/
theorem RDen.move {N N' : Nat → Prop} {w w' : World} (hw : Same N w w') (hN : ∀ b, b < w.heap.size → N' b → N b) {x : RV} {v : Value} (h : RDen N w x v) : RDen N' w' x v := by
  induction h with
  | val v => exact .val v
  | none => exact .none
  | nil sz f => exact .nil sz f
  | row sz n f b o cap c hcap hb hn hsz hc ho hd ih =>
    exact .row sz n f b o cap c hcap (Nat.lt_of_lt_of_le hb hw.1) (fun h => hn (hN b hb h)) hsz (fun k j hk hj => by rw [hw.cell hb hn]; exact hc k j hk hj) ho ih
  | agg l vs hl hd ih => exact .agg l vs hl ih
theorem SDen.move {β : Envr} {N N' : Nat → Prop} {w w' : World} (hw : Same N w w') (hN : ∀ b, b < w.heap.size → N' b → N b) {x : SV} {v : Value} (h : SDen β N w x v) : SDen β N' w' x v := by
  induction h with
  | d h => exact .d (h.move hw hN)
  | loc i off => exact .loc i off
  | own i => exact .own i
  | elem sz n f i off b o c hi hb hn hsz hc ho hd =>
    exact .elem sz n f i off b o c hi (Nat.lt_of_lt_of_le hb hw.1) (fun h => hn (hN b hb h)) hsz (fun k j hk hj => by rw [hw.cell hb hn]; exact hc k j hk hj) ho (fun k j x hk hx => (hd k j x hk hx).move hw hN)
  | tup l vs hl hd ih => exact .tup l vs hl ih

/-- Does x name box i? -/
def SV.names (i : Nat) : SV → Bool
  | .loc j _ => j == i
  | .d _ => false
  | .elem .. => false
  | .own _ => false
  | .tup l => namesL i l
  | .grd _ _ x => x.names i
where
  namesL (i : Nat) : List SV → Bool
    | [] => false
    | x :: l => x.names i || namesL i l

theorem namesL_mem {i : Nat} : ∀ {l : List SV} {x : SV}, SV.names.namesL i l = false → x ∈ l → x.names i = false
  | y :: l, x, h, hx => by
    simp only [SV.names.namesL, Bool.or_eq_false_iff] at h
    rcases List.mem_cons.1 hx with rfl | hx
    · exact h.1
    · exact namesL_mem h.2 hx

/-- The number of a box that x doesn't name may turn. -/
theorem SDen.turn {β β' : Envr} {N : Nat → Prop} {w : World} {i : Nat} (hβ : ∀ j, j ≠ i → β'.b j = β.b j) (hr : β'.r = β.r) {x : SV} {v : Value} (h : SDen β N w x v) (hx : x.names i = false) : SDen β' N w x v := by
  induction h with
  | d h => exact .d h
  | loc j off =>
    have : j ≠ i := by simpa [SV.names] using hx
    have := SDen.loc (β := β') (N := N) (w := w) j off
    rwa [hβ j (by assumption)] at this
  | own j => rw [← hr]; exact .own j
  | elem sz n f i off b o c hi hb hN hsz hc ho hd => exact .elem sz n f i off b o c hi hb hN hsz hc ho hd
  | tup l vs hl hd ih => exact .tup l vs hl fun j x v hj hv => ih j x v hj hv (namesL_mem hx (List.mem_of_getElem? hj))

end Go.Sim
