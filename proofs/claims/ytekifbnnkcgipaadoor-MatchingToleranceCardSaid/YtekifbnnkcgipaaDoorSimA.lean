/- A small interpreter over symbolic data for straight pieces of a translated program, and what its data stand for in memory. Conditions: none. What each operation of a straight piece answers, over symbolic data. Conditions: none. Each answer of the interpreter's operations is what the model's operation gives. Conditions: none. An operation that the interpreter answers runs in the model to a value that the answer says, and leaves memory as it was but for new blocks. Conditions: none. -/
import Derived.Below
import Derived.Orders
import Derived.KernelRfl
import Derived.Tactics
import Derived.Laws.BytesArg
import Derived.Laws.Cells
import Derived.Laws.Entries
import Derived.Laws.Tables
import Derived.Laws.StructEq
import Derived.ChangeKeysEq
namespace Go.Sim
open Go.RowKit (Below)

/-- Data: a value of one cell; a slice that reads as n elements of sz cells; a struct or an array, cell by cell; a pointer to a block that nobody writes, with these cells; a function with what it captured. -/
inductive RV where
  | val (v : Value)
  | nil
  | row (sz n : Nat) (f : Nat → RV)
  | agg (l : List RV)
  | ref (l : List RV)
  | clo (g : Nat) (l : List RV)

instance : Inhabited RV := ⟨.val undef⟩

def RV.cells : RV → List RV
  | .agg l => l
  | x => [x]

/-- What a slot may hold. -/
inductive SV where
  | d (x : RV)
  | loc (i off : Nat)
  | elem (sz n : Nat) (f : Nat → RV) (i off : Nat)
  | tup (l : List SV)
  | own (i : Nat)
  | grd (g : Nat) (p : Bool) (x : SV)

/-- In world w the value v is what x says; no slice in it lies in a block of N. -/
inductive RDen (N : Nat → Prop) (w : World) : RV → Value → Prop
  | val (v : Value) : RDen N w (.val v) v
  | none : RDen N w .nil (.slice none 0 0)
  | nil (sz : Nat) (f : Nat → RV) : RDen N w (.row sz 0 f) (.slice none 0 0)
  | row (sz n : Nat) (f : Nat → RV) (b o cap : Nat) (c : Nat → Nat → Value) (hcap : n ≤ cap) (hb : b < w.heap.size) (hN : ¬ N b)
      (hsz : ∀ k, k < n → (f k).cells.length = sz)
      (hc : ∀ k j, k < n → j < sz → w.cell? ⟨b, o + (k * sz + j), none⟩ = some (c k j))
      (ho : ∀ k j, k < n → j < sz → (c k j).oneCell' = true)
      (hd : ∀ (k j : Nat) x, k < n → (f k).cells[j]? = some x → RDen N w x (c k j)) : RDen N w (.row sz n f) (.slice (some ⟨b, o, none⟩) n cap)
  | agg (l : List RV) (vs : List Value) (hl : vs.length = l.length) (hd : ∀ (j : Nat) x v, l[j]? = some x → vs[j]? = some v → RDen N w x v) : RDen N w (.agg l) (.agg vs.toArray)
  | ref (l : List RV) (b : Nat) (c : Nat → Value) (hb : b < w.heap.size) (hN : ¬ N b) (hc : ∀ j, j < l.length → w.cell? ⟨b, j, none⟩ = some (c j)) (ho : ∀ j, j < l.length → (c j).oneCell' = true)
      (hd : ∀ (j : Nat) x, l[j]? = some x → RDen N w x (c j)) : RDen N w (.ref l) (.pointer (some ⟨b, 0, none⟩))
  | clo (g : Nat) (l : List RV) (vs : List Value) (hl : vs.length = l.length) (hd : ∀ (j : Nat) x v, l[j]? = some x → vs[j]? = some v → RDen N w x v) : RDen N w (.clo g l) (.func (.func g) #[] vs.toArray)

/-- The blocks of boxes, and the values of the rows that the call owns. -/
structure Envr where
  b : Nat → Nat
  r : Nat → Value

inductive SDen (β : Envr) (N : Nat → Prop) (w : World) : SV → Value → Prop
  | d {x : RV} {v : Value} (h : RDen N w x v) : SDen β N w (.d x) v
  | loc (i off : Nat) : SDen β N w (.loc i off) (.pointer (some ⟨β.b i, off, none⟩))
  | own (i : Nat) : SDen β N w (.own i) (β.r i)
  | elem (sz n : Nat) (f : Nat → RV) (i off : Nat) (b o : Nat) (c : Nat → Nat → Value) (hi : i < n) (hb : b < w.heap.size) (hN : ¬ N b)
      (hsz : ∀ k, k < n → (f k).cells.length = sz)
      (hc : ∀ k j, k < n → j < sz → w.cell? ⟨b, o + (k * sz + j), none⟩ = some (c k j))
      (ho : ∀ k j, k < n → j < sz → (c k j).oneCell' = true)
      (hd : ∀ (k j : Nat) x, k < n → (f k).cells[j]? = some x → RDen N w x (c k j)) : SDen β N w (.elem sz n f i off) (.pointer (some ⟨b, o + (i * sz + off), none⟩))
  | tup (l : List SV) (vs : List Value) (hl : vs.length = l.length) (hd : ∀ (j : Nat) x v, l[j]? = some x → vs[j]? = some v → SDen β N w x v) : SDen β N w (.tup l) (.tuple vs.toArray)

/-- Every block of w outside N' is in w' as it was. -/
def Same (N : Nat → Prop) (w w' : World) : Prop := w.heap.size ≤ w'.heap.size ∧ ∀ k, k < w.heap.size → ¬ N k → w'.heap[k]? = w.heap[k]?

theorem Same.of_below {N : Nat → Prop} {w w' : World} (h : Below w.heap.size w w') : Same N w w' := ⟨h.size, fun k hk _ => h.block k hk⟩
theorem Same.cell {N : Nat → Prop} {w w' : World} (h : Same N w w') {b : Nat} (hb : b < w.heap.size) (hN : ¬ N b) (o : Nat) : w'.cell? ⟨b, o, none⟩ = w.cell? ⟨b, o, none⟩ := by
  unfold World.cell?
  rw [h.2 b hb hN]

theorem RDen.same {N : Nat → Prop} {w w' : World} (hw : Same N w w') {x : RV} {v : Value} (h : RDen N w x v) : RDen N w' x v := by
  induction h with
  | val v => exact .val v
  | none => exact .none
  | nil sz f => exact .nil sz f
  | row sz n f b o cap c hcap hb hN hsz hc ho hd ih =>
    exact .row sz n f b o cap c hcap (Nat.lt_of_lt_of_le hb hw.1) hN hsz (fun k j hk hj => by rw [hw.cell hb hN]; exact hc k j hk hj) ho ih
  | agg l vs hl hd ih => exact .agg l vs hl ih
  | ref l b c hb hN hc ho hd ih => exact .ref l b c (Nat.lt_of_lt_of_le hb hw.1) hN (fun j hj => by rw [hw.cell hb hN]; exact hc j hj) ho ih
  | clo g l vs hl hd ih => exact .clo g l vs hl ih

/-- Fewer forbidden blocks. -/
theorem RDen.less {N N' : Nat → Prop} {w : World} (hN : ∀ b, b < w.heap.size → N' b → N b) {x : RV} {v : Value} (h : RDen N w x v) : RDen N' w x v := by
  induction h with
  | val v => exact .val v
  | none => exact .none
  | nil sz f => exact .nil sz f
  | row sz n f b o cap c hcap hb hn hsz hc ho hd ih => exact .row sz n f b o cap c hcap hb (fun h => hn (hN b hb h)) hsz hc ho ih
  | agg l vs hl hd ih => exact .agg l vs hl ih
  | ref l b c hb hn hc ho hd ih => exact .ref l b c hb (fun h => hn (hN b hb h)) hc ho ih
  | clo g l vs hl hd ih => exact .clo g l vs hl ih

theorem SDen.same {β : Envr} {N : Nat → Prop} {w w' : World} (hw : Same N w w') {x : SV} {v : Value} (h : SDen β N w x v) : SDen β N w' x v := by
  induction h with
  | d h => exact .d (h.same hw)
  | loc i off => exact .loc i off
  | own i => exact .own i
  | elem sz n f i off b o c hi hb hN hsz hc ho hd =>
    exact .elem sz n f i off b o c hi (Nat.lt_of_lt_of_le hb hw.1) hN hsz (fun k j hk hj => by rw [hw.cell hb hN]; exact hc k j hk hj) ho (fun k j x hk hx => (hd k j x hk hx).same hw)
  | tup l vs hl hd ih => exact .tup l vs hl ih

theorem SDen.less {β : Envr} {N N' : Nat → Prop} {w : World} (hN : ∀ b, b < w.heap.size → N' b → N b) {x : SV} {v : Value} (h : SDen β N w x v) : SDen β N' w x v := by
  induction h with
  | d h => exact .d (h.less hN)
  | loc i off => exact .loc i off
  | own i => exact .own i
  | elem sz n f i off b o c hi hb hn hsz hc ho hd => exact .elem sz n f i off b o c hi hb (fun h => hn (hN b hb h)) hsz hc ho (fun k j x hk hx => (hd k j x hk hx).less hN)
  | tup l vs hl hd ih => exact .tup l vs hl ih

/-- The world has turned in blocks that nothing lies in, and others may be forbidden now. -/
theorem RDen.move {N N' : Nat → Prop} {w w' : World} (hw : Same N w w') (hN : ∀ b, b < w.heap.size → N' b → N b) {x : RV} {v : Value} (h : RDen N w x v) : RDen N' w' x v := by
  induction h with
  | val v => exact .val v
  | none => exact .none
  | nil sz f => exact .nil sz f
  | row sz n f b o cap c hcap hb hn hsz hc ho hd ih =>
    exact .row sz n f b o cap c hcap (Nat.lt_of_lt_of_le hb hw.1) (fun h => hn (hN b hb h)) hsz (fun k j hk hj => by rw [hw.cell hb hn]; exact hc k j hk hj) ho ih
  | agg l vs hl hd ih => exact .agg l vs hl ih
  | ref l b c hb hn hc ho hd ih => exact .ref l b c (Nat.lt_of_lt_of_le hb hw.1) (fun h => hn (hN b hb h)) (fun j hj => by rw [hw.cell hb hn]; exact hc j hj) ho ih
  | clo g l vs hl hd ih => exact .clo g l vs hl ih
theorem SDen.move {β : Envr} {N N' : Nat → Prop} {w w' : World} (hw : Same N w w') (hN : ∀ b, b < w.heap.size → N' b → N b) {x : SV} {v : Value} (h : SDen β N w x v) : SDen β N' w' x v := by
  induction h with
  | d h => exact .d (h.move hw hN)
  | loc i off => exact .loc i off
  | own i => exact .own i
  | elem sz n f i off b o c hi hb hn hsz hc ho hd =>
    exact .elem sz n f i off b o c hi (Nat.lt_of_lt_of_le hb hw.1) (fun h => hn (hN b hb h)) hsz (fun k j hk hj => by rw [hw.cell hb hn]; exact hc k j hk hj) ho (fun k j x hk hx => (hd k j x hk hx).move hw hN)
  | tup l vs hl hd ih => exact .tup l vs hl ih

/-- Does x name box i? -/
def SV.names (i : Nat) : SV → Bool
  | .loc j _ => j == i
  | .d _ => false
  | .elem .. => false
  | .own _ => false
  | .tup l => namesL i l
  | .grd _ _ x => x.names i
where
  namesL (i : Nat) : List SV → Bool
    | [] => false
    | x :: l => x.names i || namesL i l

theorem namesL_mem {i : Nat} : ∀ {l : List SV} {x : SV}, SV.names.namesL i l = false → x ∈ l → x.names i = false
  | y :: l, x, h, hx => by
    simp only [SV.names.namesL, Bool.or_eq_false_iff] at h
    rcases List.mem_cons.1 hx with rfl | hx
    · exact h.1
    · exact namesL_mem h.2 hx

/-- The number of a box that x doesn't name may turn. -/
theorem SDen.turn {β β' : Envr} {N : Nat → Prop} {w : World} {i : Nat} (hβ : ∀ j, j ≠ i → β'.b j = β.b j) (hr : β'.r = β.r) {x : SV} {v : Value} (h : SDen β N w x v) (hx : x.names i = false) : SDen β' N w x v := by
  induction h with
  | d h => exact .d h
  | loc j off =>
    have : j ≠ i := by simpa [SV.names] using hx
    have := SDen.loc (β := β') (N := N) (w := w) j off
    rwa [hβ j (by assumption)] at this
  | own j => rw [← hr]; exact .own j
  | elem sz n f i off b o c hi hb hN hsz hc ho hd => exact .elem sz n f i off b o c hi hb hN hsz hc ho hd
  | tup l vs hl hd ih => exact .tup l vs hl fun j x v hj hv => ih j x v hj hv (namesL_mem hx (List.mem_of_getElem? hj))

end Go.Sim

namespace Go.Sim

/-- What the interpreter knows of the program's types: its row, and what lies under it. -/
abbrev Tab := List (Nat × TypeInfo × TypeDesc)

def findB {α : Type} : List (Nat × α) → Nat → Option α
  | [], _ => none
  | (k, v) :: l, s => match Nat.beq k s with
    | true => some v
    | false => findB l s

def isAggD : TypeDesc → Bool
  | .struct _ => true
  | .array _ _ => true
  | _ => false
def namedAll : TypeDesc → Bool
  | .struct fs => fs.toList.all fun f => f.name != "_"
  | _ => true
/-- Are parts of this type compared field by field? -/
def eqOkD (P : Program) (x : Nat × TypeInfo × TypeDesc) : Bool := !isAggD x.2.2 || (!P.stoodInHeld x.1 && (!P.eqGuardType P.depth x.1 && namedAll x.2.2))
/-- The table says what the program's tables say. -/
class TabOk (P : Program) (τ : Tab) : Prop where
  all : ∀ T i d, findB τ T = some (i, d) → P.info? T = some i ∧ P.underlying T = some d
  agg : τ.all (eqOkD P) = true

def Ty (τ : Tab) (T : TypeId) : Option TypeDesc :=
  match findB τ T with
  | some (_, d) => some d
  | none => none
def TySize (τ : Tab) (T : TypeId) : Option Nat :=
  match findB τ T with
  | some (i, _) => some i.size
  | none => none

theorem TabOk.ty {P : Program} {τ : Tab} [TabOk P τ] (T : TypeId) (d : TypeDesc) (h : Ty τ T = some d) : P.underlying T = some d := by
  unfold Ty at h
  split at h
  · rename_i i d' hf
    simp only [Option.some.injEq] at h; subst h
    exact (TabOk.all T i d' hf).2
  · cases h
theorem TabOk.sz {P : Program} {τ : Tab} [TabOk P τ] (T : TypeId) (s : Nat) (h : TySize τ T = some s) : (P.info? T).map (·.size) = some s := by
  unfold TySize at h
  split at h
  · rename_i i d' hf
    simp only [Option.some.injEq] at h; subst h
    rw [(TabOk.all (P := P) T i d' hf).1]; rfl
  · cases h

def TabAll (P : Program) : Tab → Prop
  | [] => True
  | (T, i, d) :: l => (P.info? T = some i ∧ P.underlying T = some d) ∧ TabAll P l
theorem tabAll_find {P : Program} : ∀ {τ : Tab} {T : TypeId} {i : TypeInfo} {d : TypeDesc}, TabAll P τ → findB τ T = some (i, d) → P.info? T = some i ∧ P.underlying T = some d
  | (k, i', d') :: l, T, i, d, h, hf => by
    simp only [findB] at hf
    split at hf
    · rename_i hk
      simp only [Option.some.injEq, Prod.mk.injEq] at hf
      obtain ⟨rfl, rfl⟩ := hf
      rw [← Nat.eq_of_beq_eq_true hk]; exact h.1
    · exact tabAll_find h.2 hf

def ofCell : Value → RV
  | .slice none 0 0 => .nil
  | v => .val v
/-- The nil slice as a row. -/
def normR : RV → RV
  | .nil => .row 0 0 (fun _ => .val undef)
  | x => x
def ofVal : Value → RV
  | .agg cs => .agg (cs.toList.map ofCell)
  | v => ofCell v

/-- One cell: a value that is no struct, array or tuple. -/
def oneV : Value → Bool
  | .agg _ => false
  | .tuple _ => false
  | _ => true
def oneR : RV → Bool
  | .val v => oneV v
  | .nil => true
  | .row .. => true
  | .agg _ => false
  | .ref _ => true
  | .clo _ _ => true

def isAggR : RV → Bool
  | .agg _ => true
  | _ => false

def allOne : List RV → Bool
  | [] => true
  | x :: l => oneR x && allOne l
theorem allOne_mem : ∀ {l : List RV} {j : Nat} {x : RV}, allOne l = true → l[j]? = some x → oneR x = true
  | [], j, x, _, h => by simp at h
  | y :: l, j, x, ha, h => by
    simp only [allOne, Bool.and_eq_true] at ha
    cases j with
    | zero => simp at h; subst h; exact ha.1
    | succ j => exact allOne_mem ha.2 (by simpa using h)

/-- Each cell of x is one cell. -/
def fitsR (x : RV) : Bool := match x with
  | .agg l => allOne l
  | y => oneR y

/-- Part of a struct or array, read at type T. -/
def partR (τ : Tab) (T : TypeId) (l : List RV) (off : Nat) : Option RV :=
  match Ty τ T with
  | some t =>
    match isAggD t with
    | true => match TySize τ T with
      | some s => match Nat.ble (off + s) l.length with
        | true => some (.agg ((l.drop off).take s))
        | false => none
      | none => none
    | false => l[off]?
  | none => none

abbrev Res := Option (List Prop × SV)
def rv (x : RV) : Res := some ([], .d x)

def sameKind (k k' : IntKind) : Bool := decide (k = k')

def evInt (op : BinOp) (k : IntKind) (a b : Int) : Res :=
  match op with
  | .add => rv (.val (.int k (k.wrap (a + b))))
  | .sub => rv (.val (.int k (k.wrap (a - b))))
  | .mul => rv (.val (.int k (k.wrap (a * b))))
  | .quo => some ([b ≠ 0], .d (.val (.int k (k.wrap (a.tdiv b)))))
  | .rem => some ([b ≠ 0], .d (.val (.int k (a.tmod b))))
  | .eql => rv (.val (.bool (a == b)))
  | .neq => rv (.val (.bool (a != b)))
  | .lss => rv (.val (.bool (decide (a < b))))
  | .leq => rv (.val (.bool (decide (a ≤ b))))
  | .gtr => rv (.val (.bool (decide (a > b))))
  | .geq => rv (.val (.bool (decide (a ≥ b))))
  | _ => none

def evStr (op : BinOp) (x y : ByteArray) : Res :=
  match op with
  | .add => some ([((x.size + y.size : Nat) : Int) ≤ IntKind.i64.max], .d (.val (.string (x ++ y))))
  | .eql => rv (.val (.bool (x.toList == y.toList)))
  | .neq => rv (.val (.bool (!(x.toList == y.toList))))
  | .lss => rv (.val (.bool (Op.bytesLess x.toList y.toList)))
  | _ => none

def evBool (τ : Tab) (op : BinOp) (T : TypeId) (x y : Bool) : Res :=
  match Ty τ T with
  | some .bool => match op with
    | .eql => rv (.val (.bool (x == y)))
    | .neq => rv (.val (.bool (!(x == y))))
    | _ => none
  | _ => none

/-- A comparison with nil: 'here' says whether the left operand is nil. -/
def evNil (op : BinOp) (here : Bool) : Res :=
  match op with
  | .eql => rv (.val (.bool here))
  | .neq => rv (.val (.bool (!here)))
  | _ => none

/-- Structs and arrays, compared part by part. -/
def eqFs (τ : Tab) (go : TypeId → RV → RV → Option Bool) : List Field → List RV → List RV → Option Bool
  | [], _, _ => some true
  | f :: fs, l, m => match partR τ f.type l f.offset, partR τ f.type m f.offset with
    | some a, some b => match go f.type a b, eqFs τ go fs l m with
      | some r, some q => some (r && q)
      | _, _ => none
    | _, _ => none
def eqIs (τ : Tab) (go : TypeId → RV → RV → Option Bool) (e : TypeId) (s : Nat) : List Nat → List RV → List RV → Option Bool
  | [], _, _ => some true
  | i :: is, l, m => match partR τ e l (i * s), partR τ e m (i * s) with
    | some a, some b => match go e a b, eqIs τ go e s is l m with
      | some r, some q => some (r && q)
      | _, _ => none
    | _, _ => none
def eqV (τ : Tab) : Nat → TypeId → RV → RV → Option Bool
  | 0, _, _, _ => none
  | d + 1, T, x, y => match Ty τ T, x, y with
    | some (.int _), .val (.int k a), .val (.int k' b) => match sameKind k k' with
      | true => some (a == b)
      | false => none
    | some .string, .val (.string a), .val (.string b) => some (a.toList == b.toList)
    | some .bool, .val (.bool a), .val (.bool b) => some (a == b)
    | some (.struct fs), .agg l, .agg m => eqFs τ (eqV τ d) fs.toList l m
    | some (.array n e), .agg l, .agg m => match TySize τ e with
      | some s => eqIs τ (eqV τ d) e s (List.range n) l m
      | none => none
    | _, _, _ => none

def evBin (τ : Tab) (op : BinOp) (T : TypeId) : SV → SV → Res
  | .d (.val (.int k a)), .d (.val (.int k' b)) => match sameKind k k' with
    | true => evInt op k a b
    | false => none
  | .d (.val (.string x)), .d (.val (.string y)) => evStr op x y
  | .d (.val (.bool x)), .d (.val (.bool y)) => evBool τ op T x y
  | .d (.val (.func _ _ _)), .d (.val .nilFunc) => match Ty τ T with
    | some (.func _ _ _) => evNil op false
    | _ => none
  | .d (.val .nilFunc), .d (.val .nilFunc) => match Ty τ T with
    | some (.func _ _ _) => evNil op true
    | _ => none
  | .d (.clo _ _), .d (.val .nilFunc) => match Ty τ T with
    | some (.func _ _ _) => evNil op false
    | _ => none
  | .loc _ _, .d (.val (.pointer none)) => match Ty τ T with
    | some (.pointer _) => evNil op false
    | _ => none
  | .d (.val (.pointer none)), .d (.val (.pointer none)) => match Ty τ T with
    | some (.pointer _) => evNil op true
    | _ => none
  | .d (.agg l), .d (.agg m) => match Ty τ T with
    | some t => match isAggD t with
      | true => match eqV τ 8 T (.agg l) (.agg m) with
        | some b => evNil op b
        | none => none
      | false => none
    | none => none
  | _, _ => none

def evUn (op : UnOp) : SV → Res
  | .d (.val (.bool b)) => match op with
    | .not => rv (.val (.bool (!b)))
    | _ => none
  | .d (.val (.int k n)) => match op with
    | .neg => rv (.val (.int k (k.wrap (0 - n))))
    | _ => none
  | _ => none

/-- The bytes of elements k, k + 1, .. k + m - 1. -/
def numsFrom (f : Nat → RV) : Nat → Nat → Option (List Int)
  | _, 0 => some []
  | k, m + 1 => match f k, numsFrom f (k + 1) m with
    | .val (.int .u8 x), some l => some (x :: l)
    | _, _ => none

def evConv (τ : Tab) (src dst : TypeId) (x : SV) : Res :=
  match Ty τ src, Ty τ dst, x with
  | some (.slice e), some .string, .d (.row 1 n f) => match Ty τ e with
    | some (.int .u8) => match numsFrom f 0 n with
      | some l => rv (.val (.string (strOfNums l)))
      | none => none
    | _ => none
  | some (.int _), some (.int k), .d (.val (.int _ n)) => rv (.val (.int k (k.wrap n)))
  | some .string, some .string, .d (.val (.string s)) => rv (.val (.string s))
  | _, _, _ => none

def evExtract (x : SV) (i : Nat) : Res :=
  match x with
  | .tup l => match l[i]? with
    | some v => some ([], v)
    | none => none
  | _ => none

/-- A field's place and type. -/
def fieldOf (τ : Tab) (T : TypeId) (i : Nat) : Option (Nat × TypeId) :=
  match Ty τ T with
  | some (.struct fs) => match fs[i]? with
    | some f => some (f.offset, f.type)
    | none => none
  | _ => none

def evFieldAddr (τ : Tab) (T : TypeId) (x : SV) (i : Nat) : Res :=
  match fieldOf τ T i with
  | some (off, t) => match TySize τ t with
    | some (_ + 1) => match x with
      | .loc j o => some ([], .loc j (o + off))
      | .elem sz n f k o => some ([], .elem sz n f k (o + off))
      | .d (.ref l) => some ([], .elem l.length 1 (fun _ => .agg l) 0 off)
      | _ => none
    | _ => none
  | none => none

def evField (τ : Tab) (T : TypeId) (x : SV) (i : Nat) : Res :=
  match fieldOf τ T i, x with
  | some (off, t), .d (.agg l) => (partR τ t l off).bind rv
  | _, _ => none

def unD : SV → Option RV
  | .d r => some r
  | _ => none
def unDs : List SV → Option (List RV)
  | [] => some []
  | x :: l => match unD x, unDs l with
    | some r, some rs => some (r :: rs)
    | _, _ => none
/-- Part of a box. -/
def partS (τ : Tab) (T : TypeId) (l : List SV) (off : Nat) : Option SV :=
  match Ty τ T with
  | some t =>
    match isAggD t with
    | true => match TySize τ T with
      | some s => match Nat.ble (off + s) l.length, unDs ((l.drop off).take s) with
        | true, some rs => some (.d (.agg rs))
        | _, _ => none
      | none => none
    | false => l[off]?
  | none => none

def evLoad (τ : Tab) (bx : List (Nat × TypeId × List SV)) (T : TypeId) : SV → Res
  | .loc i off => match findB bx i with
    | some (_, cs) => (partS τ T cs off).bind fun x => some ([], x)
    | none => none
  | .d (.ref l) => (partR τ T l 0).bind rv
  | .elem _ _ f k off => (partR τ T (f k).cells off).bind rv
  | _ => none

def byteAt (s : ByteArray) (i : Nat) : Int := ((s.data.getD i 0).toNat : Int)

def evIndex (τ : Tab) (T : TypeId) (x i : SV) : Res :=
  match x, i with
  | .d (.val (.string s)), .d (.val (.int _ n)) => match Ty τ T with
    | some .string => some ([0 ≤ n ∧ n < (s.size : Int)], .d (.val (.int .u8 (byteAt s n.toNat))))
    | _ => none
  | .d (.agg l), .d (.val (.int _ n)) => match Ty τ T with
    | some (.array len e) => match TySize τ e with
      | some s => match partR τ e l (n.toNat * s) with
        | some r => some ([0 ≤ n ∧ n < (len : Int)], .d r)
        | none => none
      | none => none
    | _ => none
  | _, _ => none

def evIndexAddr (τ : Tab) (T : TypeId) (x i : SV) : Res :=
  match x, i with
  | .d (.row sz n f), .d (.val (.int _ k)) => match Ty τ T with
    | some (.slice e) => match TySize τ e with
      | some s => match Nat.beq s sz with
        | true => some ([0 ≤ k ∧ k < (n : Int)], .elem sz n f k.toNat 0)
        | false => none
      | none => none
    | _ => none
  | .loc j o, .d (.val (.int _ k)) => match Ty τ T with
    | some (.array len e) => match TySize τ e with
      | some s => some ([0 ≤ k ∧ k < (len : Int)], .loc j (o + k.toNat * s))
      | none => none
    | _ => none
  | _, _ => none

/-- A bound of a slice expression: given or not. -/
def bnd (x : Option SV) (dflt : Int) : Option (List Int × Int) :=
  match x with
  | none => some ([], dflt)
  | some (.d (.val (.int _ n))) => some ([n], n)
  | _ => none

def evSlice (τ : Tab) (T : TypeId) (x : SV) (lo hi : Option SV) : Res :=
  match x with
  | .d (.val (.string s)) => match Ty τ T, bnd hi s.size, bnd lo 0 with
    | some .string, some (hs, h), some (ls, l) => some (hs.map (fun h => 0 ≤ h ∧ h ≤ (s.size : Int)) ++ ls.map (fun l => 0 ≤ l ∧ l ≤ h), .d (.val (.string (s.extract l.toNat h.toNat))))
    | _, _, _ => none
  | .d (.row sz n f) => match Ty τ T, bnd hi n, bnd lo 0 with
    | some (.slice e), some (hs, h), some (ls, l) => match TySize τ e with
      | some s => match Nat.beq s sz with
        | true => some (hs.map (fun h => 0 ≤ h ∧ h ≤ (n : Int)) ++ ls.map (fun l => 0 ≤ l ∧ l ≤ h), .d (.row sz (h.toNat - l.toNat) (fun k => f (l.toNat + k))))
        | false => none
      | none => none
    | _, _, _ => none
  | _ => none

def evNilCheck : SV → Res
  | .loc i o => some ([], .loc i o)
  | .elem sz n f k o => some ([], .elem sz n f k o)
  | .d (.val (.func (.func g) a b)) => rv (.val (.func (.func g) a b))
  | .d (.clo g l) => rv (.clo g l)
  | .d (.ref l) => rv (.ref l)
  | _ => none

/-- The cells of l with those of x laid from off on. -/
def layAt {α : Type} (l : List α) (off : Nat) (x : List α) : List α := l.take off ++ x ++ l.drop (off + x.length)

/-- Parts laid at the places that 'pl' gives. -/
def layParts (pl : Nat → Option (Nat × Nat)) (cells : List RV) : List (Nat × RV) → Option (List RV)
  | [] => some cells
  | (i, x) :: rest => match pl i with
    | none => none
    | some (off, s) => match Nat.beq x.cells.length s && Nat.ble (off + s) cells.length && (oneR x || isAggR x) with
      | true => layParts pl (layAt cells off x.cells) rest
      | false => none

/-- Look every operand up. -/
def lookAll (lk : Operand → Option SV) : List Operand → Option (List RV)
  | [] => some []
  | x :: l => match lk x, lookAll lk l with
    | some (.d r), some rs => some (normR r :: rs)
    | _, _ => none
def lookParts (lk : Operand → Option SV) : List (Nat × Operand) → Option (List (Nat × RV))
  | [] => some []
  | (i, x) :: l => match lk x, lookParts lk l with
    | some (.d r), some rs => some ((i, normR r) :: rs)
    | _, _ => none

def zeroOf (τ : Tab) (T : TypeId) : Option RV :=
  match findB τ T with
  | some (i, _) => match i.zero with
    | some v => some (ofVal v)
    | none => none
  | none => none

theorem TabOk.zr {P : Program} {τ : Tab} [TabOk P τ] (T : TypeId) (z : RV) (h : zeroOf τ T = some z) : ∃ i v, P.info? T = some i ∧ i.zero = some v ∧ z = ofVal v := by
  unfold zeroOf at h
  split at h
  · rename_i i d hf
    split at h
    · rename_i v hv
      simp only [Option.some.injEq] at h
      exact ⟨i, v, (TabOk.all (P := P) T i d hf).1, hv, h.symm⟩
    · cases h
  · cases h

/-- Each field's place and size. -/
def placesL (τ : Tab) : List Field → Option (List (Nat × Nat))
  | [] => some []
  | f :: fs => match TySize τ f.type, placesL τ fs with
    | some s, some l => some ((f.offset, s) :: l)
    | _, _ => none

def places (τ : Tab) (T : TypeId) : Option (Nat → Option (Nat × Nat)) :=
  match Ty τ T with
  | some (.struct fs) => match placesL τ fs.toList with
    | some l => some fun i => l[i]?
    | none => none
  | some (.array _ e) => match TySize τ e with
    | some s => some fun i => some (i * s, s)
    | none => none
  | _ => none

def evBuild (τ : Tab) (lk : Operand → Option SV) (T : TypeId) (parts : List (Nat × Operand)) : Res :=
  match zeroOf τ T, places τ T, lookParts lk parts with
  | some z, some pl, some ps => match layParts pl z.cells ps with
    | some cs => rv (.agg cs)
    | none => none
  | _, _, _ => none

/-- Parts 0, 1, .. in order, each of s cells. -/
def inOrder (s : Nat) : Nat → List (Nat × RV) → Bool
  | _, [] => true
  | k, (i, x) :: l => Nat.beq i k && Nat.beq x.cells.length s && fitsR x && inOrder s (k + 1) l

def evBuildSlice (τ : Tab) (lk : Operand → Option SV) (T : TypeId) (len : Nat) (parts : List (Nat × Operand)) : Res :=
  match Ty τ T with
  | some (.slice e) => match TySize τ e, lookParts lk parts, zeroOf τ e with
    | some s, some ps, some _ => match Nat.beq ps.length len && inOrder s 0 ps && Nat.ble 1 (len * s) && Nat.ble (len * s) 16777216 with
      | true => rv (.row s len (fun k => ((ps.map (·.2)).getD k default)))
      | false => none
    | _, _, _ => none
  | _ => none

def evLen (τ : Tab) (T : TypeId) : SV → Res
  | .d .nil => match Ty τ T with
    | some (.slice _) => rv (.val (.int .i64 0))
    | _ => none
  | .d (.val (.string s)) => match Ty τ T with
    | some .string => rv (.val (.int .i64 s.size))
    | _ => none
  | .d (.row _ n _) => match Ty τ T with
    | some (.slice _) => rv (.val (.int .i64 n))
    | _ => none
  | _ => none

def evMinMax (isMax : Bool) : SV → SV → Res
  | .d (.val (.int k x)), .d (.val (.int _ y)) => rv (.val (.int k (match isMax with | true => max x y | false => min x y)))
  | _, _ => none

/-- Two ways to a value of one kind. -/
def mux (c : Bool) (a b : Operand) : SV → SV → Res
  | .d (.val (.bool x)), .d (.val (.bool y)) => match b, a with
    | .const (.bool false), _ => rv (.val (.bool (c && x)))
    | _, .const (.bool true) => rv (.val (.bool (c || y)))
    | _, _ => rv (.val (.bool (bif c then x else y)))
  | .d (.val (.int k x)), .d (.val (.int k' y)) => match sameKind k k' with
    | true => rv (.val (.int k (bif c then x else y)))
    | false => none
  | _, _ => none

/-- What a call of a Go function answers: conditions and a result. -/
abbrev Spec := FuncId → List RV → Res

def evCallee (lk : Operand → Option SV) (f : Operand) : Option (FuncId × List RV) :=
  match lk f with
  | some (.d (.val (.func (.func g) ⟨[]⟩ ⟨[]⟩))) => some (g, [])
  | some (.d (.clo g l)) => some (g, l)
  | _ => none

def evCall (τ : Tab) (sp : Spec) (lk : Operand → Option SV) (c : Call) : Res :=
  match c.callee with
  | .builtin .len => match c.args.toList, c.argTypes.toList with
    | [x], [T] => (lk x).bind (evLen τ T)
    | _, _ => none
  | .builtin .max => match c.args.toList with
    | [x, y] => match lk x, lk y with
      | some a, some b => evMinMax true a b
      | _, _ => none
    | _ => none
  | .builtin .min => match c.args.toList with
    | [x, y] => match lk x, lk y with
      | some a, some b => evMinMax false a b
      | _, _ => none
    | _ => none
  | .value f => match evCallee lk f, lookAll lk c.args.toList with
    | some (g, caps), some args => sp g (args ++ caps)
    | _, _ => none
  | _ => none

/-- What is captured: data as it stands. -/
def lookCaps (lk : Operand → Option SV) : List Operand → Option (List RV)
  | [] => some []
  | x :: l => match lk x, lookCaps lk l with
    | some (.d r), some rs => some (r :: rs)
    | _, _ => none
def evMakeFunc (lk : Operand → Option SV) (fn : Fn) (first captured : List Operand) : Res :=
  match fn, first, lookCaps lk captured with
  | .func g, [], some caps => rv (.clo g caps)
  | _, _, _ => none

def ev2 (lk : Operand → Option SV) (x y : Operand) (f : SV → SV → Res) : Res :=
  match lk x, lk y with
  | some a, some b => f a b
  | _, _ => none

def optLook (lk : Operand → Option SV) : Option Operand → Option (Option SV)
  | none => some none
  | some x => match lk x with
    | some v => some (some v)
    | none => none

/-- An operation that leaves all boxes as they are. 'lkG' looks an operand up under further guards. -/
def evOp (τ : Tab) (sp : Spec) (bx : List (Nat × TypeId × List SV)) (lkG : List (Nat × Bool) → Operand → Option SV) (o : Op) : Res :=
  let lk := lkG []
  match o with
  | .move x => (lk x).bind fun v => some ([], v)
  | .assign x => (lk x).bind fun v => some ([], v)
  | .pick (.tmp s) a b => match lk (.tmp s), lkG [(s, true)] a, lkG [(s, false)] b with
    | some (.d (.val (.bool c))), some x, some y => mux c a b x y
    | _, _, _ => none
  | .binOp op T x y _ => ev2 lk x y (evBin τ op T)
  | .unOp op _ x => (lk x).bind (evUn op)
  | .convert s t x => (lk x).bind (evConv τ s t)
  | .extract x i => (lk x).bind (evExtract · i)
  | .fieldAddr T x i => (lk x).bind (evFieldAddr τ T · i)
  | .field T x i => (lk x).bind (evField τ T · i)
  | .load T x => (lk x).bind (evLoad τ bx T)
  | .index T x i => ev2 lk x i (evIndex τ T)
  | .indexAddr T x i => ev2 lk x i (evIndexAddr τ T)
  | .slice T x lo hi none => match lk x, optLook lk lo, optLook lk hi with
    | some v, some l, some h => evSlice τ T v l h
    | _, _, _ => none
  | .nilCheck x => (lk x).bind evNilCheck
  | .build T parts => evBuild τ lk T parts.toList
  | .buildSlice T len parts => evBuildSlice τ lk T len parts.toList
  | .call c => evCall τ sp lk c
  | .makeFunc fn first captured => evMakeFunc lk fn first.toList captured.toList
  | _ => none

end Go.Sim

namespace Go.Sim

theorem add_at (b o j : Nat) : (Addr.mk b o none).add j = ⟨b, o + j, none⟩ := by
  unfold Addr.add
  split
  · rename_i h; subst h; rfl
  · rfl

section
variable {P : Program} {τ : Tab} [TabOk P τ] {β : Envr} {N : Nat → Prop} {w : World}

theorem run_ty {T : TypeId} {t : TypeDesc} (h : Ty τ T = some t) (w : World) : (underlying T).run P w = .ok t w := run_underlying (TabOk.ty T t h) w

theorem run_size {T : TypeId} {s : Nat} (h : TySize τ T = some s) (w : World) : (sizeOf T).run P w = .ok s w := by
  have h := TabOk.sz (P := P) T s h
  cases hi : P.info? T with
  | none => simp [hi] at h
  | some i =>
    simp [hi] at h
    simp [sizeOf, typeInfo, hi, h]

theorem run_isAggD {T : TypeId} {t : TypeDesc} (h : Ty τ T = some t) (w : World) : (isAgg T).run P w = .ok (isAggD t) w := by
  simp only [isAgg, Sem.run_bind, run_ty h, Result.andThen_ok]
  cases t <;> rfl

/-- What the model's 'part' gives. -/
theorem partR_ok {T : TypeId} {l : List RV} {off : Nat} {x : RV} (h : partR τ T l off = some x) {vs : List Value} (hl : vs.length = l.length)
    (hd : ∀ (j : Nat) x v, l[j]? = some x → vs[j]? = some v → RDen N w x v) (w' : World) : ∃ v, (part T vs.toArray off).run P w' = .ok v w' ∧ RDen N w x v := by
  unfold partR at h
  cases ht : Ty τ T with
  | none => simp [ht] at h
  | some t =>
    simp only [ht] at h
    cases ha : isAggD t with
    | true =>
      simp only [ha] at h
      cases hs : TySize τ T with
      | none => simp [hs] at h
      | some s =>
        simp only [hs] at h
        cases hle : Nat.ble (off + s) l.length with
        | false => simp [hle] at h
        | true =>
          simp only [hle, Option.some.injEq] at h
          subst h
          have hle' := Nat.le_of_ble_eq_true hle
          refine ⟨.agg (vs.toArray.extract off (off + s)), by simp [part, run_isAggD ht, ha, run_size hs], ?_⟩
          have e : vs.toArray.extract off (off + s) = ((vs.drop off).take s).toArray := by
            simp [List.extract_eq_take_drop]
          rw [e]
          refine .agg _ _ (by simp; omega) fun j x v hx hv => ?_
          rw [List.getElem?_take] at hx hv
          split at hx
          · rename_i hj
            rw [if_pos hj] at hv
            rw [List.getElem?_drop] at hx hv
            exact hd _ _ _ hx hv
          · cases hx
    | false =>
      simp only [ha] at h
      have hlt : off < l.length := (List.getElem?_eq_some_iff.1 h).1
      have hv : vs[off]? = some (vs[off]'(by omega)) := List.getElem?_eq_getElem _
      refine ⟨vs[off]'(by omega), by simp [part, run_isAggD ht, ha, hv], hd _ _ _ h hv⟩

/-- The same out of memory. -/
theorem load_ok {T : TypeId} {l : List RV} {off : Nat} {x : RV} (h : partR τ T l off = some x) {b o : Nat} (c : Nat → Value)
    (hc : ∀ j, j < l.length → w.cell? ⟨b, o + j, none⟩ = some (c j)) (hd : ∀ (j : Nat) x, l[j]? = some x → RDen N w x (c j)) :
    ∃ v, (loadVar T ⟨b, o + off, none⟩).run P w = .ok v w ∧ RDen N w x v := by
  unfold partR at h
  cases ht : Ty τ T with
  | none => simp [ht] at h
  | some t =>
    simp only [ht] at h
    cases ha : isAggD t with
    | true =>
      simp only [ha] at h
      cases hs : TySize τ T with
      | none => simp [hs] at h
      | some s =>
        simp only [hs] at h
        cases hle : Nat.ble (off + s) l.length with
        | false => simp [hle] at h
        | true =>
          simp only [hle, Option.some.injEq] at h
          subst h
          have hle' := Nat.le_of_ble_eq_true hle
          have hr := run_loadCells_list (P := P) (w := w) (⟨b, o + off, none⟩ : Addr) ((List.range s).map fun j => c (off + j)) (fun j v hv => by
            rw [add_at]
            simp only [List.getElem?_map] at hv
            by_cases hj : j < s
            · rw [List.getElem?_range hj] at hv
              simp at hv; subst hv
              rw [Nat.add_assoc]
              exact hc _ (by omega)
            · rw [List.getElem?_eq_none (by simp; omega)] at hv; simp at hv)
          refine ⟨.agg ((List.range s).map fun j => c (off + j)).toArray, ?_, ?_⟩
          · simp only [loadVar, Sem.run_bind, run_isAggD ht, Result.andThen_ok, ha, if_true, run_size hs]
            simp only [List.length_map, List.length_range] at hr
            simp [hr]
          · refine .agg _ _ (by simp; omega) fun j x v hx hv => ?_
            rw [List.getElem?_take] at hx
            split at hx
            · rename_i hj
              rw [List.getElem?_drop] at hx
              rw [List.getElem?_map, List.getElem?_range hj] at hv
              simp at hv; subst hv
              exact hd _ _ hx
            · cases hx
    | false =>
      simp only [ha] at h
      have hlt : off < l.length := (List.getElem?_eq_some_iff.1 h).1
      refine ⟨c off, ?_, hd _ _ h⟩
      simp [loadVar, run_isAggD ht, ha, hc _ hlt]

theorem oneV_eq (v : Value) : oneV v = v.oneCell' := by cases v <;> rfl

/-- The cells l stand for the values vs. -/
def Cells (N : Nat → Prop) (w : World) (l : List RV) (vs : List Value) : Prop := vs.length = l.length ∧ ∀ (j : Nat) x v, l[j]? = some x → vs[j]? = some v → RDen N w x v

theorem Cells.append {l l' : List RV} {vs vs' : List Value} (h : Cells N w l vs) (h' : Cells N w l' vs') : Cells N w (l ++ l') (vs ++ vs') := by
  refine ⟨by simp [h.1, h'.1], fun j x v hx hv => ?_⟩
  rw [List.getElem?_append] at hx hv
  rw [h.1] at hv
  split at hx
  · rename_i hj; rw [if_pos hj] at hv; exact h.2 _ _ _ hx hv
  · rename_i hj; rw [if_neg hj] at hv; exact h'.2 _ _ _ hx hv

theorem Cells.take {l : List RV} {vs : List Value} (h : Cells N w l vs) (n : Nat) : Cells N w (l.take n) (vs.take n) := by
  refine ⟨by simp [h.1], fun j x v hx hv => ?_⟩
  rw [List.getElem?_take] at hx hv
  split at hx
  · rename_i hj; rw [if_pos hj] at hv; exact h.2 _ _ _ hx hv
  · cases hx

theorem Cells.drop {l : List RV} {vs : List Value} (h : Cells N w l vs) (n : Nat) : Cells N w (l.drop n) (vs.drop n) := by
  refine ⟨by simp [h.1], fun j x v hx hv => ?_⟩
  rw [List.getElem?_drop] at hx hv
  exact h.2 _ _ _ hx hv

theorem Cells.agg {l : List RV} {vs : List Value} (h : Cells N w l vs) : RDen N w (.agg l) (.agg vs.toArray) := .agg _ _ h.1 h.2

/-- The cells of a value. -/
theorem Cells.of_den {x : RV} {v : Value} (h : RDen N w x v) (hx : (oneR x || isAggR x) = true) : Cells N w x.cells v.cells.toList := by
  cases h with
  | val v =>
    have : oneV v = true := by simpa [oneR, isAggR] using hx
    have e : v.cells = #[v] := by cases v <;> simp_all [oneV, Value.cells]
    rw [e]
    refine ⟨rfl, fun j x u hx hu => ?_⟩
    cases j with
    | zero => simp [RV.cells] at hx hu; subst hx; subst hu; exact .val _
    | succ j => simp [RV.cells] at hx
  | none =>
    refine ⟨rfl, fun j x u hx hu => ?_⟩
    cases j with
    | zero => simp [RV.cells, Value.cells] at hx hu; subst hx; subst hu; exact .none
    | succ j => simp [RV.cells] at hx
  | nil sz f =>
    refine ⟨rfl, fun j x u hx hu => ?_⟩
    cases j with
    | zero => simp [RV.cells, Value.cells] at hx hu; subst hx; subst hu; exact .nil _ _
    | succ j => simp [RV.cells] at hx
  | row sz n f b o cap c hcap hb hN hsz hc ho hd =>
    refine ⟨rfl, fun j x u hx hu => ?_⟩
    cases j with
    | zero => simp [RV.cells, Value.cells] at hx hu; subst hx; subst hu; exact .row sz n f b o cap c hcap hb hN hsz hc ho hd
    | succ j => simp [RV.cells] at hx
  | agg l vs hl hd => exact ⟨by simpa [Value.cells, RV.cells] using hl, fun j x v hx hv => hd j x v hx (by simpa [Value.cells] using hv)⟩
  | ref l b c hb hN hc ho hd =>
    refine ⟨rfl, fun j x u hx hu => ?_⟩
    cases j with
    | zero => simp [RV.cells, Value.cells] at hx hu; subst hx; subst hu; exact .ref l b c hb hN hc ho hd
    | succ j => simp [RV.cells] at hx
  | clo g l vs hl hd =>
    refine ⟨rfl, fun j x u hx hu => ?_⟩
    cases j with
    | zero => simp [RV.cells, Value.cells] at hx hu; subst hx; subst hu; exact .clo g l vs hl hd
    | succ j => simp [RV.cells] at hx

theorem ofCell_ok (v : Value) : RDen N w (ofCell v) v := by
  unfold ofCell
  split
  · exact .none
  · exact .val _

theorem normR_ok {x : RV} {v : Value} (h : RDen N w x v) : RDen N w (normR x) v := by
  cases h with
  | val v => exact .val v
  | none => exact .nil _ _
  | nil sz f => exact .nil sz f
  | row sz n f b o cap c hcap hb hN hsz hc ho hd => exact .row sz n f b o cap c hcap hb hN hsz hc ho hd
  | agg l vs hl hd => exact .agg l vs hl hd
  | ref l b c hb hN hc ho hd => exact .ref l b c hb hN hc ho hd
  | clo g l vs hl hd => exact .clo g l vs hl hd

theorem ofVal_ok (v : Value) : RDen N w (ofVal v) v := by
  unfold ofVal
  split
  · rename_i cs
    have : Cells N w (cs.toList.map ofCell) cs.toList := ⟨by simp, fun j x v hx hv => by
      rw [List.getElem?_map, hv] at hx
      simp at hx; subst hx
      exact ofCell_ok _⟩
    simpa using this.agg
  · exact ofCell_ok _

theorem zeroOf_ok {T : TypeId} {z : RV} (h : zeroOf τ T = some z) (w' : World) : ∃ v, (zeroValue T).run P w' = .ok v w' ∧ RDen N w z v := by
  obtain ⟨i, v, hi, hz, rfl⟩ := TabOk.zr (P := P) T z h
  exact ⟨v, by simp [zeroValue, typeInfo, hi, hz], ofVal_ok v⟩

theorem oneCell_of {x : RV} {v : Value} (h : RDen N w x v) (hx : oneR x = true) : v.oneCell' = true := by
  cases h with
  | val v => rw [← oneV_eq]; exact hx
  | none => rfl
  | nil => rfl
  | row => rfl
  | agg => cases hx
  | ref => rfl
  | clo => rfl

theorem Cells.oneCell {l : List RV} {vs : List Value} (h : Cells N w l vs) (ha : allOne l = true) : ∀ v ∈ vs, v.oneCell' = true := by
  intro v hv
  obtain ⟨j, hj⟩ := List.mem_iff_getElem?.1 hv
  have hlt : j < l.length := by rw [← h.1]; exact (List.getElem?_eq_some_iff.1 hj).1
  have hx : l[j]? = some (l[j]) := List.getElem?_eq_getElem hlt
  exact oneCell_of (h.2 j _ v hx hj) (allOne_mem ha hx)

theorem fitsR_or {x : RV} (h : fitsR x = true) : (oneR x || isAggR x) = true ∧ allOne x.cells = true := by
  cases x with
  | agg l => exact ⟨rfl, h⟩
  | val v => exact ⟨by simp only [fitsR] at h; rw [h]; rfl, by simp only [fitsR] at h; simp [RV.cells, allOne, h]⟩
  | nil => exact ⟨rfl, rfl⟩
  | row sz n f => exact ⟨rfl, rfl⟩
  | ref l => exact ⟨rfl, rfl⟩
  | clo g l => exact ⟨rfl, rfl⟩

/-- Laying the cells of one value over a row of cells. -/
theorem lay_foldl : ∀ (vs : List Value) (k off : Nat) (cs : Array Value), off + k + vs.length ≤ cs.size →
    (vs.zipIdx k).foldl (fun (cs : Array Value) (cj : Value × Nat) => cs.setIfInBounds (off + cj.2) cj.1) cs = (cs.toList.take (off + k) ++ vs ++ cs.toList.drop (off + k + vs.length)).toArray
  | [], k, off, cs, h => by simp
  | v :: vs, k, off, cs, h => by
    simp only [List.zipIdx_cons, List.foldl_cons]
    rw [lay_foldl vs (k + 1) off _ (by simp at h ⊢; omega)]
    congr 1
    have hk : off + k < cs.size := by simp at h; omega
    apply List.ext_getElem?
    intro j
    simp only [Array.toList_setIfInBounds, List.append_assoc, List.getElem?_append, List.length_take, List.length_set, Array.length_toList, List.getElem?_take, List.getElem?_drop, List.getElem?_set, List.length_cons, Nat.add_assoc]
    have h1 : min (off + (k + 1)) cs.size = off + k + 1 := by omega
    have h2 : min (off + k) cs.size = off + k := by omega
    simp only [h1, h2]
    by_cases a : j < off + k
    · simp [a, show j < off + k + 1 by omega, show off + k ≠ j by omega, show j < off + (k + 1) by omega]
    · by_cases b : j = off + k
      · subst b
        simp [hk, show off + k < off + k + 1 by omega, show off + k < off + (k + 1) by omega]
      · have e : j - (off + k) = (j - (off + k + 1)) + 1 := by omega
        simp only [a, if_false, show ¬ j < off + k + 1 by omega, e, List.getElem?_cons_succ]
        have hlen : (v :: vs).length = vs.length + 1 := rfl
        by_cases c : j - (off + k + 1) < vs.length
        · simp [c]
        · rw [if_neg c, if_neg (by omega), if_neg (by omega)]
          congr 1
          omega

theorem Cells.layAt {l x : List RV} {vs us : List Value} (h : Cells N w l vs) (h' : Cells N w x us) (off : Nat) : Cells N w (layAt l off x) (vs.take off ++ us ++ vs.drop (off + us.length)) := by
  unfold Sim.layAt
  rw [h'.1]
  exact ((h.take off).append h').append (h.drop _)

/-- The cells of a box. -/
def CellsS (β : Envr) (N : Nat → Prop) (w : World) (l : List SV) (vs : List Value) : Prop := vs.length = l.length ∧ ∀ (j : Nat) x v, l[j]? = some x → vs[j]? = some v → SDen β N w x v
theorem CellsS.append {l l' : List SV} {vs vs' : List Value} (h : CellsS β N w l vs) (h' : CellsS β N w l' vs') : CellsS β N w (l ++ l') (vs ++ vs') := by
  refine ⟨by simp [h.1, h'.1], fun j x v hx hv => ?_⟩
  rw [List.getElem?_append] at hx hv
  rw [h.1] at hv
  split at hx
  · rename_i hj; rw [if_pos hj] at hv; exact h.2 _ _ _ hx hv
  · rename_i hj; rw [if_neg hj] at hv; exact h'.2 _ _ _ hx hv
theorem CellsS.take {l : List SV} {vs : List Value} (h : CellsS β N w l vs) (n : Nat) : CellsS β N w (l.take n) (vs.take n) := by
  refine ⟨by simp [h.1], fun j x v hx hv => ?_⟩
  rw [List.getElem?_take] at hx hv
  split at hx
  · rename_i hj; rw [if_pos hj] at hv; exact h.2 _ _ _ hx hv
  · cases hx
theorem CellsS.drop {l : List SV} {vs : List Value} (h : CellsS β N w l vs) (n : Nat) : CellsS β N w (l.drop n) (vs.drop n) := by
  refine ⟨by simp [h.1], fun j x v hx hv => ?_⟩
  rw [List.getElem?_drop] at hx hv
  exact h.2 _ _ _ hx hv
theorem CellsS.layAt {l x : List SV} {vs us : List Value} (h : CellsS β N w l vs) (h' : CellsS β N w x us) (off : Nat) : CellsS β N w (layAt l off x) (vs.take off ++ us ++ vs.drop (off + us.length)) := by
  unfold Sim.layAt
  rw [h'.1]
  exact ((h.take off).append h').append (h.drop _)
theorem CellsS.of_cells {l : List RV} {vs : List Value} (h : Cells N w l vs) : CellsS β N w (l.map .d) vs := by
  refine ⟨by simp [h.1], fun j x v hx hv => ?_⟩
  rw [List.getElem?_map] at hx
  cases hl : l[j]? with
  | none => rw [hl] at hx; cases hx
  | some r =>
    rw [hl] at hx
    simp only [Option.map_some, Option.some.injEq] at hx
    subst hx
    exact .d (h.2 j r v hl hv)
theorem unDs_ok : ∀ {l : List SV} {rs : List RV}, unDs l = some rs → rs.length = l.length ∧ ∀ (j : Nat) r, rs[j]? = some r → l[j]? = some (.d r)
  | [], rs, h => by simp [unDs] at h; subst h; exact ⟨rfl, fun j r hr => by simp at hr⟩
  | x :: l, rs, h => by
    simp only [unDs] at h
    split at h
    · rename_i r rs' h1 h2
      simp only [Option.some.injEq] at h; subst h
      have hx : x = .d r := by
        unfold unD at h1
        split at h1
        · simp only [Option.some.injEq] at h1; rw [h1]
        · cases h1
      obtain ⟨a, b⟩ := unDs_ok h2
      refine ⟨by simp [a], fun j r' hr => ?_⟩
      cases j with
      | zero => simp at hr ⊢; rw [hx, hr]
      | succ j => simpa using b j r' (by simpa using hr)
    · cases h
/-- The same out of a box. -/
theorem loadS_ok {T : TypeId} {l : List SV} {off : Nat} {x : SV} (h : partS τ T l off = some x) {b : Nat} (c : Nat → Value)
    (hc : ∀ j, j < l.length → w.cell? ⟨b, j, none⟩ = some (c j)) (hd : ∀ (j : Nat) x, l[j]? = some x → SDen β N w x (c j)) :
    ∃ v, (loadVar T ⟨b, off, none⟩).run P w = .ok v w ∧ SDen β N w x v := by
  unfold partS at h
  cases ht : Ty τ T with
  | none => simp [ht] at h
  | some t =>
    simp only [ht] at h
    cases ha : isAggD t with
    | true =>
      simp only [ha] at h
      cases hs : TySize τ T with
      | none => simp [hs] at h
      | some s =>
        simp only [hs] at h
        split at h
        · rename_i rs hle hrs
          simp only [Option.some.injEq] at h
          subst h
          have hle' := Nat.le_of_ble_eq_true hle
          obtain ⟨u1, u2⟩ := unDs_ok hrs
          have hr := run_loadCells_list (P := P) (w := w) (⟨b, off, none⟩ : Addr) ((List.range s).map fun j => c (off + j)) (fun j v hv => by
            rw [add_at]
            simp only [List.getElem?_map] at hv
            by_cases hj : j < s
            · rw [List.getElem?_range hj] at hv
              simp at hv; subst hv
              exact hc _ (by omega)
            · rw [List.getElem?_eq_none (by simp; omega)] at hv; simp at hv)
          refine ⟨.agg ((List.range s).map fun j => c (off + j)).toArray, ?_, .d ?_⟩
          · simp only [loadVar, Sem.run_bind, run_isAggD ht, Result.andThen_ok, ha, if_true, run_size hs]
            simp only [List.length_map, List.length_range] at hr
            simp [hr]
          · refine .agg _ _ (by simp at u1; simp; omega) fun j x v hx hv => ?_
            have hj := u2 j x hx
            rw [List.getElem?_take] at hj
            split at hj
            · rename_i hlt
              rw [List.getElem?_drop] at hj
              rw [List.getElem?_map, List.getElem?_range hlt] at hv
              simp at hv; subst hv
              have := hd _ _ hj
              generalize c (off + j) = u at this
              cases this with | d h => exact h
            · cases hj
        · cases h
    | false =>
      simp only [ha] at h
      have hlt : off < l.length := (List.getElem?_eq_some_iff.1 h).1
      refine ⟨c off, ?_, hd _ _ h⟩
      simp [loadVar, run_isAggD ht, ha, hc _ hlt]

theorem fill_ok (pl pl' : Nat → Option (Nat × Nat)) : ∀ (ps : List (Nat × RV)) (qs : List (Nat × Value)) (l : List RV) (vs : List Value) (r : List RV), layParts pl l ps = some r → Cells N w l vs →
    qs.length = ps.length → (∀ (j : Nat) p q, ps[j]? = some p → qs[j]? = some q → q.1 = p.1 ∧ RDen N w p.2 q.2) → (∀ i o s, pl i = some (o, s) → pl' i = some (o, s)) →
    ∃ us, Instr.fill pl' vs.toArray qs = some us.toArray ∧ Cells N w r us
  | [], [], l, vs, r, h, hc, _, _, _ => by simp [layParts] at h; subst h; exact ⟨vs, rfl, hc⟩
  | [], q :: qs, l, vs, r, h, hc, hl, _, _ => by simp at hl
  | p :: ps, [], l, vs, r, h, hc, hl, _, _ => by simp at hl
  | (i, x) :: ps, (i', v) :: qs, l, vs, r, h, hc, hl, hd, hp => by
    obtain ⟨h0, hv⟩ := hd 0 _ _ rfl rfl
    simp only at h0 hv
    subst h0
    simp only [layParts] at h
    cases hpl : pl i' with
    | none => simp [hpl] at h
    | some os =>
      obtain ⟨o, s⟩ := os
      simp only [hpl] at h
      split at h
      · rename_i hcond
        simp only [Bool.and_eq_true] at hcond
        obtain ⟨⟨hs, hle⟩, hone⟩ := hcond
        have hs := Nat.eq_of_beq_eq_true hs
        have hle := Nat.le_of_ble_eq_true hle
        have hcv := Cells.of_den hv hone
        have hvl : v.cells.size = s := by have := hcv.1; simpa [hs] using this
        have hlv := hc.1
        have hfold := lay_foldl v.cells.toList 0 o vs.toArray (by simp; omega)
        have hc' := Cells.layAt (off := o) hc hcv
        obtain ⟨us, hus, hcu⟩ := fill_ok pl pl' ps qs _ _ r h hc' (by simpa using hl) (fun j p q hp hq => hd (j + 1) p q (by simpa using hp) (by simpa using hq)) hp
        refine ⟨us, ?_, hcu⟩
        simp only [Instr.fill, hp _ _ _ hpl]
        rw [if_neg (by simp [hvl]; omega)]
        rw [← hus]
        congr 1
        have e : v.cells.zipIdx.foldl (fun cs (c, j) => cs.setIfInBounds (o + j) c) vs.toArray = (v.cells.toList.zipIdx 0).foldl (fun (cs : Array Value) (cj : Value × Nat) => cs.setIfInBounds (o + cj.2) cj.1) vs.toArray := by
          rw [← Array.foldl_toList]
          simp
        rw [e, hfold]
        simp
      · cases h

end
end Go.Sim

namespace Go.Sim
open Go.RowKit (Below)

/-- A call of g with data as args says enters a Go body and returns what x says; it may make new blocks alone. -/
def Enters (P : Program) (g : FuncId) : Prop := ∃ fn, P.funcs[g]? = some fn ∧ (fn.name == "runtime.NumGoroutine") = false ∧ fn.body.isSome = true
def Pure (P : Program) (g : FuncId) (args : List RV) (x : SV) : Prop :=
  ∀ (N : Nat → Prop) (w : World) (vs : List Value), (∀ b, N b → b < w.heap.size) → Cells N w args vs →
    Calls P g vs.toArray w fun e w' => ∃ v, e = .returned v ∧ (∀ β, SDen β N w' x v) ∧ Below w.heap.size w w'
def SpecOk (P : Program) (sp : Spec) : Prop := ∀ g args ps x, sp g args = some (ps, x) → (∀ p ∈ ps, p) → Enters P g ∧ Pure P g args x

def tv (a : Act) (s : Nat) : Value := a.tmps.getD s undef

/-- What the operation does, whatever follows it. -/
def OpGives (P : Program) (β : Envr) (N : Nat → Prop) (w : World) (o : Oper) (a : Act) (x : SV) : Prop :=
  ∀ (K : Act → World → Prop) (Q : Exit → Act → World → Prop), (∀ v w', SDen β N w' x v → Below w.heap.size w w' → K (a.put o.dst v) w') → o.wp P a w K Q

section
variable {P : Program} {τ : Tab} [TabOk P τ] {β : Envr} {N : Nat → Prop} {w : World}

theorem OpGives.of_run {o : Oper} {a : Act} {x : SV} {v : Value} (h : (execOp a.eval o).run P w = .ok (.value v) w) (hx : SDen β N w x v) : OpGives P β N w o a x := by
  intro K Q hK
  unfold Oper.wp
  rw [h]
  exact hK v w hx (Below.refl _ _)

/-- What the model's part of an operation gives: a value, nothing else. -/
def Gives (P : Program) (β : Envr) (N : Nat → Prop) (w : World) (s : Sem Value) (x : SV) : Prop := ∃ v, s.run P w = .ok v w ∧ SDen β N w x v

theorem Gives.val {s : Sem Value} {v : Value} (h : s.run P w = .ok v w) : Gives P β N w s (.d (.val v)) := ⟨v, h, .d (.val v)⟩
theorem Gives.mk {s : Sem Value} {v : Value} {x : SV} (h : s.run P w = .ok v w) (hx : SDen β N w x v) : Gives P β N w s x := ⟨v, h, hx⟩

theorem evInt_ok {op : BinOp} {k : IntKind} {a b : Int} {T : TypeId} {ps : List Prop} {x : SV} (h : evInt op k a b = some (ps, x)) (hp : ∀ p ∈ ps, p) :
    Gives P β N w (binOp op T (.int k a) (.int k b)) x := by
  cases op <;> simp only [evInt, rv, Option.some.injEq, Prod.mk.injEq, reduceCtorEq] at h <;> obtain ⟨rfl, rfl⟩ := h
  all_goals refine .val ?_
  all_goals first
    | (simp [binOp, Op.intArith]; done)
    | (simp [binOp, Op.intCmp]; done)
    | (have hb : b ≠ 0 := hp _ (List.mem_singleton.2 rfl)
       simp [binOp, Op.intDiv, hb]; done)

theorem evStr_ok {op : BinOp} {s t : ByteArray} {T : TypeId} {ps : List Prop} {x : SV} (h : evStr op s t = some (ps, x)) (hp : ∀ p ∈ ps, p) :
    Gives P β N w (binOp op T (.string s) (.string t)) x := by
  cases op <;> simp only [evStr, rv, Option.some.injEq, Prod.mk.injEq, reduceCtorEq] at h <;> obtain ⟨rfl, rfl⟩ := h
  all_goals refine .val ?_
  case add =>
    have hb : ((s.size + t.size : Nat) : Int) ≤ IntKind.i64.max := hp _ (List.mem_singleton.2 rfl)
    simp only [binOp, Op.stringOp]
    rw [if_neg (by omega)]
    rfl
  all_goals simp [binOp, Op.stringOp]

theorem equalIn_bool (d : Nat) {T : TypeId} (ht : Ty τ T = some .bool) (s t : Bool) : (Op.equalIn (d + 1) T (.bool s) (.bool t)).run P w = .ok (s == t) w := by
  simp [Op.equalIn, run_ty ht]
theorem equalIn_func (d : Nat) {T : TypeId} {as bs : Array TypeId} {va : Bool} (ht : Ty τ T = some (.func as bs va)) (f : Fn) (x y : Array Value) : (Op.equalIn (d + 1) T (.func f x y) .nilFunc).run P w = .ok false w := by
  simp [Op.equalIn, run_ty ht]
theorem equalIn_nilFunc (d : Nat) {T : TypeId} {as bs : Array TypeId} {va : Bool} (ht : Ty τ T = some (.func as bs va)) : (Op.equalIn (d + 1) T .nilFunc .nilFunc).run P w = .ok true w := by
  simp [Op.equalIn, run_ty ht]
theorem equalIn_ptr (d : Nat) {T e : TypeId} (ht : Ty τ T = some (.pointer e)) (a : Addr) : (Op.equalIn (d + 1) T (.pointer (some a)) (.pointer none)).run P w = .ok false w := by
  simp [Op.equalIn, run_ty ht]
theorem equalIn_nilPtr (d : Nat) {T e : TypeId} (ht : Ty τ T = some (.pointer e)) : (Op.equalIn (d + 1) T (.pointer none) (.pointer none)).run P w = .ok true w := by
  simp [Op.equalIn, run_ty ht]

theorem bin_eql {T : TypeId} {u v : Value} {r : Bool} (hb : binOp .eql T u v = (do pure (.bool (← Op.equal T u v)))) (h : (Op.equalIn (9999 + 1) T u v).run P w = .ok r w) :
    (binOp .eql T u v).run P w = .ok (.bool r) w := by
  have h' : (Op.equal T u v).run P w = .ok r w := h
  rw [hb]; simp [h']
theorem bin_neq {T : TypeId} {u v : Value} {r : Bool} (hb : binOp .neq T u v = (do pure (.bool (!(← Op.equal T u v))))) (h : (Op.equalIn (9999 + 1) T u v).run P w = .ok r w) :
    (binOp .neq T u v).run P w = .ok (.bool (!r)) w := by
  have h' : (Op.equal T u v).run P w = .ok r w := h
  rw [hb]; simp [h']

theorem evBool_ok {op : BinOp} {s t : Bool} {T : TypeId} {ps : List Prop} {x : SV} (h : evBool τ op T s t = some (ps, x)) :
    Gives P β N w (binOp op T (.bool s) (.bool t)) x := by
  unfold evBool at h
  split at h
  · rename_i ht
    cases op <;> simp only [rv, Option.some.injEq, Prod.mk.injEq, reduceCtorEq] at h <;> obtain ⟨rfl, rfl⟩ := h
    · exact .val (bin_eql rfl (equalIn_bool _ ht s t))
    · exact .val (bin_neq rfl (equalIn_bool _ ht s t))
  · cases h

theorem evNil_ok {op : BinOp} {here : Bool} {u v : Value} {T : TypeId} {ps : List Prop} {x : SV} (h : evNil op here = some (ps, x))
    (he : (Op.equalIn (9999 + 1) T u v).run P w = .ok here w) (h1 : binOp .eql T u v = (do pure (.bool (← Op.equal T u v)))) (h2 : binOp .neq T u v = (do pure (.bool (!(← Op.equal T u v))))) :
    Gives P β N w (binOp op T u v) x := by
  cases op <;> simp only [evNil, rv, Option.some.injEq, Prod.mk.injEq, reduceCtorEq] at h <;> obtain ⟨rfl, rfl⟩ := h
  · exact .val (bin_eql h1 he)
  · exact .val (bin_neq h2 he)

def plainPair : Value → Value → Bool
  | .nilIface, .nilIface => false
  | .agg _, .agg _ => false
  | _, _ => true

theorem eqGuard_plain {op : BinOp} {T : TypeId} {x y : Operand} {u v : Value} (h : plainPair u v = true) :
    (eqGuard op T x y u v).run P w = .ok () w := by
  unfold eqGuard
  cases op <;> first | rfl | (cases u <;> cases v <;> first | rfl | (simp [plainPair] at h))

/-- What stands for plain data. -/
theorem SDen.val {v u : Value} (h : SDen β N w (.d (.val v)) u) : u = v := by
  cases h with
  | d h => cases h with
    | val => rfl

theorem findB_in {α : Type} {i : Nat} {x : α} : ∀ {l : List (Nat × α)}, findB l i = some x → (i, x) ∈ l
  | (k, y) :: l, h => by
    simp only [findB] at h
    split at h
    · rename_i hk
      simp only [Option.some.injEq] at h; subst h
      rw [← Nat.eq_of_beq_eq_true hk]; exact List.mem_cons_self
    · exact List.mem_cons_of_mem _ (findB_in h)
theorem TabOk.eqs {T : TypeId} {d : TypeDesc} (h : Ty τ T = some d) (ha : isAggD d = true) : P.stoodInHeld T = false ∧ P.eqGuardType P.depth T = false ∧ namedAll d = true := by
  unfold Ty at h
  split at h
  · rename_i i d' hf
    simp only [Option.some.injEq] at h; subst h
    have := List.all_eq_true.1 (TabOk.agg (P := P) (τ := τ)) _ (findB_in hf)
    simp only [eqOkD, ha, Bool.not_true, Bool.false_or, Bool.and_eq_true, Bool.not_eq_true'] at this
    exact this
  · cases h
theorem eqFs_ok {go : TypeId → RV → RV → Option Bool} {k : Nat} (hgo : ∀ (T : TypeId) (x y : RV) (b : Bool) (u v : Value), go T x y = some b → RDen N w x u → RDen N w y v → (Op.equalIn k T u v).run P w = .ok b w)
    {l m : List RV} {xs ys : List Value} (hx : xs.length = l.length) (hxd : ∀ (j : Nat) x v, l[j]? = some x → xs[j]? = some v → RDen N w x v) (hy : ys.length = m.length) (hyd : ∀ (j : Nat) x v, m[j]? = some x → ys[j]? = some v → RDen N w x v) :
    ∀ {fs : List Field} {b : Bool}, (∀ f ∈ fs, f.name ≠ "_") → eqFs τ go fs l m = some b → (Op.eqFields k xs.toArray ys.toArray fs).run P w = .ok b w
  | [], b, _, h => by simp [eqFs] at h; subst h; simp [Op.eqFields]
  | f :: fs, b, hn, h => by
    simp only [eqFs] at h
    split at h
    · rename_i a c h1 h2
      split at h
      · rename_i r q h3 h4
        simp only [Option.some.injEq] at h; subst h
        obtain ⟨u, hu, hu2⟩ := partR_ok (P := P) h1 hx hxd w
        obtain ⟨v, hv, hv2⟩ := partR_ok (P := P) h2 hy hyd w
        have e1 := hgo _ _ _ _ _ _ h3 hu2 hv2
        have e2 := eqFs_ok hgo hx hxd hy hyd (fun g hg => hn g (List.mem_cons_of_mem _ hg)) h4
        simp only [Op.eqFields, hn f List.mem_cons_self, ne_eq, not_false_eq_true, if_true, Sem.run_bind, hu, hv, e1, Result.andThen_ok]
        cases r
        · simp
        · simpa using e2
      · cases h
    · cases h
theorem eqIs_ok {go : TypeId → RV → RV → Option Bool} {k s : Nat} {e : TypeId} (hgo : ∀ (T : TypeId) (x y : RV) (b : Bool) (u v : Value), go T x y = some b → RDen N w x u → RDen N w y v → (Op.equalIn k T u v).run P w = .ok b w)
    {l m : List RV} {xs ys : List Value} (hx : xs.length = l.length) (hxd : ∀ (j : Nat) x v, l[j]? = some x → xs[j]? = some v → RDen N w x v) (hy : ys.length = m.length) (hyd : ∀ (j : Nat) x v, m[j]? = some x → ys[j]? = some v → RDen N w x v) :
    ∀ {is : List Nat} {b : Bool}, eqIs τ go e s is l m = some b → (Op.eqItems k e s xs.toArray ys.toArray is).run P w = .ok b w
  | [], b, h => by simp [eqIs] at h; subst h; simp [Op.eqItems]
  | i :: is, b, h => by
    simp only [eqIs] at h
    split at h
    · rename_i a c h1 h2
      split at h
      · rename_i r q h3 h4
        simp only [Option.some.injEq] at h; subst h
        obtain ⟨u, hu, hu2⟩ := partR_ok (P := P) h1 hx hxd w
        obtain ⟨v, hv, hv2⟩ := partR_ok (P := P) h2 hy hyd w
        have e1 := hgo _ _ _ _ _ _ h3 hu2 hv2
        have e2 := eqIs_ok hgo hx hxd hy hyd h4
        simp only [Op.eqItems, Sem.run_bind, hu, hv, e1, Result.andThen_ok]
        cases r
        · simp
        · simpa using e2
      · cases h
    · cases h
theorem eqV_ok : ∀ (d k : Nat) (T : TypeId) (x y : RV) (b : Bool) (u v : Value), eqV τ d T x y = some b → RDen N w x u → RDen N w y v → (Op.equalIn (k + d) T u v).run P w = .ok b w
  | 0, k, T, x, y, b, u, v, h, _, _ => by simp [eqV] at h
  | d + 1, k, T, x, y, b, u, v, h, hu, hv => by
    have ih := fun T x y b u v => eqV_ok d k T x y b u v
    simp only [eqV] at h
    split at h
    · rename_i k0 k1 a k2 c ht
      split at h
      · rename_i hk
        obtain rfl : k1 = k2 := by simpa [sameKind] using hk
        simp only [Option.some.injEq] at h; subst h
        cases hu; cases hv
        exact run_equalIn_int w (k + d) T k1 k0 a c (TabOk.ty _ _ ht)
      · cases h
    · rename_i a c ht
      simp only [Option.some.injEq] at h; subst h
      cases hu; cases hv
      exact run_equalIn_string w (k + d) T a c (TabOk.ty _ _ ht)
    · rename_i a c ht
      simp only [Option.some.injEq] at h; subst h
      cases hu; cases hv
      exact equalIn_bool (k + d) ht a c
    · rename_i fs l m ht
      cases hu with
      | agg _ xs hx hxd =>
        cases hv with
        | agg _ ys hy hyd =>
          have hP : P.underlying T = some (.struct fs) := TabOk.ty _ _ ht
          have hf : P.fieldsOf T = fs := by unfold Program.fieldsOf; rw [hP]
          obtain ⟨hs, _, hn⟩ := TabOk.eqs (P := P) ht rfl
          rw [show k + (d + 1) = (k + d) + 1 from rfl, run_equalIn_struct w (k + d) T xs.toArray ys.toArray (by rw [hf]; exact hP) hs, hf]
          refine eqFs_ok (τ := τ) ih hx hxd hy hyd (fun f hfm => ?_) h
          have := List.all_eq_true.1 (show (fs.toList.all fun f => f.name != "_") = true from hn) f hfm
          simpa using this
    · rename_i n e l m ht
      split at h
      · rename_i s hsz
        cases hu with
        | agg _ xs hx hxd =>
          cases hv with
          | agg _ ys hy hyd =>
            have hP : P.underlying T = some (.array n e) := TabOk.ty _ _ ht
            have hi := TabOk.sz (P := P) e s hsz
            cases hinf : P.info? e with
            | none => rw [hinf] at hi; cases hi
            | some i =>
              rw [hinf] at hi
              have hc : P.cellsOf e = s := by
                unfold Program.cellsOf
                rw [hinf]
                simpa using hi
              rw [show k + (d + 1) = (k + d) + 1 from rfl, run_equalIn_array w (k + d) xs.toArray ys.toArray hP hinf, hc]
              exact eqIs_ok (τ := τ) ih hx hxd hy hyd h
      · cases h
    · cases h

theorem evBin_ok {op : BinOp} {T : TypeId} {p q : SV} {ps : List Prop} {x : SV} (h : evBin τ op T p q = some (ps, x)) (hp : ∀ p ∈ ps, p) {u v : Value}
    (hu : SDen β N w p u) (hv : SDen β N w q v) (ox oy : Operand) : Gives P β N w (do eqGuard op T ox oy u v; binOp op T u v) x := by
  have key : Gives P β N w (binOp op T u v) x ∧ (eqGuard op T ox oy u v).run P w = .ok () w := by
    unfold evBin at h
    split at h
    · obtain rfl := hu.val; obtain rfl := hv.val
      split at h
      · rename_i k a k' b _ hk
        obtain rfl : k = k' := by simpa [sameKind] using hk
        exact ⟨evInt_ok h hp, eqGuard_plain rfl⟩
      · cases h
    · obtain rfl := hu.val; obtain rfl := hv.val
      exact ⟨evStr_ok h hp, eqGuard_plain rfl⟩
    · obtain rfl := hu.val; obtain rfl := hv.val
      exact ⟨evBool_ok h, eqGuard_plain rfl⟩
    · obtain rfl := hu.val; obtain rfl := hv.val
      split at h
      · rename_i ht; exact ⟨evNil_ok h (equalIn_func _ ht _ _ _) rfl rfl, eqGuard_plain rfl⟩
      · cases h
    · obtain rfl := hu.val; obtain rfl := hv.val
      split at h
      · rename_i ht; exact ⟨evNil_ok h (equalIn_nilFunc _ ht) rfl rfl, eqGuard_plain rfl⟩
      · cases h
    · obtain rfl := hv.val
      cases hu with
      | d hu => cases hu with
        | clo g l vs hl hd =>
          split at h
          · rename_i ht; exact ⟨evNil_ok h (equalIn_func _ ht _ _ _) rfl rfl, eqGuard_plain rfl⟩
          · cases h
    · obtain rfl := hv.val
      cases hu
      split at h
      · rename_i ht; exact ⟨evNil_ok h (equalIn_ptr _ ht _) rfl rfl, eqGuard_plain rfl⟩
      · cases h
    · obtain rfl := hu.val; obtain rfl := hv.val
      split at h
      · rename_i ht; exact ⟨evNil_ok h (equalIn_nilPtr _ ht) rfl rfl, eqGuard_plain rfl⟩
      · cases h
    · rename_i l m
      split at h
      · rename_i t ht
        split at h
        · rename_i ha
          split at h
          · rename_i b hb
            cases hu with
            | d hu => cases hv with
              | d hv =>
                have he := eqV_ok (P := P) (w := w) 8 9992 T _ _ b u v hb hu hv
                cases hu with
                | agg _ xs hx hxd => cases hv with
                  | agg _ ys hy hyd => exact ⟨evNil_ok h he rfl rfl, run_eqGuard_agg w op T ox oy xs.toArray ys.toArray (TabOk.eqs (P := P) ht ha).2.1⟩
          · cases h
        · cases h
      · cases h
    · cases h
  obtain ⟨⟨y, hy, hd⟩, hg⟩ := key
  exact ⟨y, by simp [hg, hy], hd⟩

theorem evUn_ok {op : UnOp} {p : SV} {ps : List Prop} {x : SV} (h : evUn op p = some (ps, x)) {u : Value} (hu : SDen β N w p u) : Gives P β N w (Op.unary op u) x := by
  unfold evUn at h
  split at h
  · obtain rfl := hu.val
    cases op <;> simp only [rv, Option.some.injEq, Prod.mk.injEq, reduceCtorEq] at h
    obtain ⟨rfl, rfl⟩ := h
    exact .val rfl
  · obtain rfl := hu.val
    cases op <;> simp only [rv, Option.some.injEq, Prod.mk.injEq, reduceCtorEq] at h
    obtain ⟨rfl, rfl⟩ := h
    exact .val rfl
  · cases h

theorem numsFrom_ok {f : Nat → RV} : ∀ {m k : Nat} {l : List Int}, numsFrom f k m = some l → l.length = m ∧ ∀ j, j < m → f (k + j) = .val (.int .u8 (l.getD j 0))
  | 0, k, l, h => by simp [numsFrom] at h; subst h; exact ⟨rfl, fun j hj => absurd hj (Nat.not_lt_zero j)⟩
  | m + 1, k, l, h => by
    simp only [numsFrom] at h
    split at h
    · rename_i x r hx hr
      simp only [Option.some.injEq] at h; subst h
      obtain ⟨h1, h2⟩ := numsFrom_ok hr
      refine ⟨by simp [h1], fun j hj => ?_⟩
      cases j with
      | zero => simpa using hx
      | succ j =>
        have := h2 j (by omega)
        rw [show k + (j + 1) = k + 1 + j by omega]
        simpa using this
    · cases h

theorem evConv_ok {s t : TypeId} {p : SV} {ps : List Prop} {x : SV} (h : evConv τ s t p = some (ps, x)) {u : Value} (hu : SDen β N w p u) : Gives P β N w (convert s t u) x := by
  unfold evConv at h
  split at h
  · rename_i e n f h1 h2
    split at h
    · rename_i h3
      split at h
      · rename_i l hl
        simp only [rv, Option.some.injEq, Prod.mk.injEq] at h
        obtain ⟨rfl, rfl⟩ := h
        obtain ⟨n1, n2⟩ := numsFrom_ok hl
        cases hu with
        | d hu =>
          cases hu with
          | nil =>
            have : l = [] := List.eq_nil_of_length_eq_zero n1
            subst this
            exact .val (run_convert_bytes_nil w s e (TabOk.ty _ _ h1) (TabOk.ty _ _ h3) _ _ t (TabOk.ty _ _ h2))
          | row _ _ _ b o cap c hcap hb hN hsz hc ho hd =>
            refine .val (run_convert_bytes_arg w s e (TabOk.ty _ _ h1) (TabOk.ty _ _ h3) b o _ cap l n1 (fun i hi => ?_) t (TabOk.ty _ _ h2))
            have h4 := hc i 0 hi (by omega)
            rw [show o + (i * 1 + 0) = o + i by omega] at h4
            rw [h4]
            have h5 := n2 i hi
            rw [Nat.zero_add] at h5
            have h6 := hd i 0 (.val (.int .u8 (l.getD i 0))) hi (by rw [h5]; rfl)
            generalize c i 0 = y at h6
            cases h6
            rfl
      · cases h
    · cases h
  · rename_i h1 h2
    obtain rfl := hu.val
    simp only [rv, Option.some.injEq, Prod.mk.injEq] at h
    obtain ⟨rfl, rfl⟩ := h
    exact .val (by simp [convert, run_ty h1, run_ty h2, Conv.intToInt])
  · rename_i h1 h2
    obtain rfl := hu.val
    simp only [rv, Option.some.injEq, Prod.mk.injEq] at h
    obtain ⟨rfl, rfl⟩ := h
    exact .val (by simp [convert, run_ty h1, run_ty h2])
  · cases h

theorem evExtract_ok {p : SV} {i : Nat} {ps : List Prop} {x : SV} (h : evExtract p i = some (ps, x)) {u : Value} (hu : SDen β N w p u) : Gives P β N w (Instr.extract u i) x := by
  unfold evExtract at h
  split at h
  · split at h
    · rename_i l _ y hy
      simp only [Option.some.injEq, Prod.mk.injEq] at h
      obtain ⟨rfl, rfl⟩ := h
      cases hu with
      | tup _ vs hl hd =>
        have hlt : i < l.length := (List.getElem?_eq_some_iff.1 hy).1
        have hv : vs[i]? = some (vs[i]'(by omega)) := List.getElem?_eq_getElem _
        exact .mk (by simp [Instr.extract, hv]) (hd _ _ _ hy hv)
    · cases h
  · cases h

theorem fieldOf_ok {T : TypeId} {i off : Nat} {t : TypeId} (h : fieldOf τ T i = some (off, t)) : ∃ fs f, Ty τ T = some (.struct fs) ∧ fs[i]? = some f ∧ f.offset = off ∧ f.type = t := by
  unfold fieldOf at h
  split at h
  · rename_i fs ht
    split at h
    · rename_i f hf
      simp only [Option.some.injEq, Prod.mk.injEq] at h
      exact ⟨fs, f, ht, hf, h.1, h.2⟩
    · cases h
  · cases h

theorem evFieldAddr_ok {T : TypeId} {p : SV} {i : Nat} {ps : List Prop} {x : SV} (h : evFieldAddr τ T p i = some (ps, x)) {u : Value} (hu : SDen β N w p u) : Gives P β N w (Instr.fieldAt T u i) x := by
  unfold evFieldAddr at h
  split at h
  · rename_i off t hf
    obtain ⟨fs, f, h1, h2, rfl, rfl⟩ := fieldOf_ok hf
    split at h
    · rename_i s hs
      have hpl : ∀ a : Addr, (fieldPlace a f).run P w = .ok (a.add f.offset) w := fun a => by simp [fieldPlace, run_size hs]
      have hrun : ∀ a : Addr, (Instr.fieldAt T (.pointer (some a)) i).run P w = .ok (.pointer (some (a.add f.offset))) w := fun a => by
        simp [Instr.fieldAt, run_ty h1, h2, Instr.sureAddr, hpl]
      split at h
      · simp only [Option.some.injEq, Prod.mk.injEq] at h
        obtain ⟨rfl, rfl⟩ := h
        cases hu
        exact .mk (hrun _) (by rw [add_at]; exact .loc _ _)
      · simp only [Option.some.injEq, Prod.mk.injEq] at h
        obtain ⟨rfl, rfl⟩ := h
        cases hu with
        | elem _ _ _ _ _ b o' c hi hb hN hsz hc ho hd =>
          exact .mk (hrun _) (by rw [add_at, Nat.add_assoc, Nat.add_assoc]; exact .elem _ _ _ _ _ b o' c hi hb hN hsz hc ho hd)
      · rename_i l
        simp only [Option.some.injEq, Prod.mk.injEq] at h
        obtain ⟨rfl, rfl⟩ := h
        cases hu with
        | d hu => cases hu with
          | ref _ b c hb hN hc ho hd =>
            refine .mk (hrun _) ?_
            rw [add_at]
            have := SDen.elem (β := β) (N := N) (w := w) l.length 1 (fun _ => .agg l) 0 f.offset b 0 (fun _ j => c j) Nat.zero_lt_one hb hN (fun _ _ => rfl)
              (fun k j hk hj => by rw [show 0 + (k * l.length + j) = j by rw [show k = 0 by omega]; omega]; exact hc j hj) (fun k j _ hj => ho j hj) (fun k j x _ hx => hd j x hx)
            simpa using this
      · cases h
    · cases h
  · cases h

theorem evField_ok {T : TypeId} {p : SV} {i : Nat} {ps : List Prop} {x : SV} (h : evField τ T p i = some (ps, x)) {u : Value} (hu : SDen β N w p u) : Gives P β N w (Instr.field T u i) x := by
  unfold evField at h
  split at h
  · rename_i off t l hf
    obtain ⟨fs, f, h1, h2, rfl, rfl⟩ := fieldOf_ok hf
    cases hq : partR τ f.type l f.offset with
    | none => simp [hq] at h
    | some r =>
      simp only [hq, Option.bind_some, rv, Option.some.injEq, Prod.mk.injEq] at h
      obtain ⟨rfl, rfl⟩ := h
      cases hu with
      | d hu => cases hu with
        | agg _ vs hl hd =>
          obtain ⟨v, hv, hr⟩ := partR_ok (P := P) hq hl hd w
          exact .mk (v := v) (by simp [Instr.field, run_ty h1, h2, asAgg, hv]) (.d hr)
  · cases h

/-- The boxes lie in memory as they are said. -/
def BoxOk (β : Envr) (N : Nat → Prop) (w : World) (bx : List (Nat × TypeId × List SV)) : Prop :=
  ∀ i T cs, findB bx i = some (T, cs) → ∃ vs : List Value, w.heap[β.b i]? = some (.cells vs.toArray T (0, 0)) ∧ CellsS β N w cs vs ∧ (∀ v ∈ vs, v.oneCell' = true)

theorem evLoad_ok {bx : List (Nat × TypeId × List SV)} (hbx : BoxOk β N w bx) {T : TypeId} {p : SV} {ps : List Prop} {x : SV} (h : evLoad τ bx T p = some (ps, x)) {u : Value} (hu : SDen β N w p u) :
    Gives P β N w (Instr.loadAt T u) x := by
  unfold evLoad at h
  split at h
  · rename_i i off
    split at h
    · rename_i T' cs hf
      cases hq : partS τ T cs off with
      | none => simp [hq] at h
      | some r =>
        simp only [hq, Option.bind_some, Option.some.injEq, Prod.mk.injEq] at h
        obtain ⟨rfl, rfl⟩ := h
        cases hu
        obtain ⟨vs, hh, ⟨hl, hd⟩, _⟩ := hbx _ _ _ hf
        obtain ⟨v, hv, hr⟩ := loadS_ok (P := P) (w := w) (N := N) (β := β) (b := β.b i) hq (fun j => vs.getD j undef) (fun j hj => by simp [World.cell?, hh, List.getD, hl, hj]) (fun j y hj => by
          have hlt : j < cs.length := (List.getElem?_eq_some_iff.1 hj).1
          have : vs[j]? = some (vs[j]'(by omega)) := List.getElem?_eq_getElem _
          simp only [List.getD, this, Option.getD_some]
          exact hd _ _ _ hj this)
        exact .mk (v := v) (by simpa [Instr.loadAt, Instr.sureAddr] using hv) hr
    · cases h
  · rename_i l
    cases hq : partR τ T l 0 with
    | none => simp [hq] at h
    | some r =>
      simp only [hq, Option.bind_some, rv, Option.some.injEq, Prod.mk.injEq] at h
      obtain ⟨rfl, rfl⟩ := h
      cases hu with
      | d hu => cases hu with
        | ref _ b c hb hN hc ho hd =>
          obtain ⟨v, hv, hr⟩ := load_ok (P := P) (w := w) (N := N) (b := b) (o := 0) hq c (fun j hj => by rw [Nat.zero_add]; exact hc j hj) hd
          exact .mk (v := v) (by simpa [Instr.loadAt, Instr.sureAddr] using hv) (.d hr)
  · rename_i sz n f k off
    cases hq : partR τ T (f k).cells off with
    | none => simp [hq] at h
    | some r =>
      simp only [hq, Option.bind_some, rv, Option.some.injEq, Prod.mk.injEq] at h
      obtain ⟨rfl, rfl⟩ := h
      cases hu with
      | elem _ _ _ _ _ b o c hi hb hN hsz hc ho hd =>
        obtain ⟨v, hv, hr⟩ := load_ok (P := P) (w := w) (N := N) (b := b) (o := o + k * sz) hq (fun j => c k j) (fun j hj => by rw [Nat.add_assoc]; exact hc k j hi (by rw [hsz k hi] at hj; exact hj)) (fun j y hj => hd k j y hi hj)
        rw [Nat.add_assoc] at hv
        exact .mk (v := v) (by simpa [Instr.loadAt, Instr.sureAddr] using hv) (.d hr)
  · cases h

end
end Go.Sim

