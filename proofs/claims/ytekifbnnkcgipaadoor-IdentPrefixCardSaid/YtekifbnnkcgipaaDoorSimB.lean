/- What each operation of a straight piece answers, over symbolic data. Conditions: none. -/
import Derived.Laws.BytesArg
import Derived.Test.YtekifbnnkcgipaaDoorSimA
namespace Go.Sim

/-- What the interpreter knows of the program's types: its row, and what lies under it. -/
abbrev Tab := List (Nat × TypeInfo × TypeDesc)

def findB {α : Type} : List (Nat × α) → Nat → Option α
  | [], _ => none
  | (k, v) :: l, s => match Nat.beq k s with
    | true => some v
    | false => findB l s

/-- The table says what the program's tables say. -/
class TabOk (P : Program) (τ : Tab) : Prop where
  all : ∀ T i d, findB τ T = some (i, d) → P.info? T = some i ∧ P.underlying T = some d

def Ty (τ : Tab) (T : TypeId) : Option TypeDesc :=
  match findB τ T with
  | some (_, d) => some d
  | none => none
def TySize (τ : Tab) (T : TypeId) : Option Nat :=
  match findB τ T with
  | some (i, _) => some i.size
  | none => none

theorem TabOk.ty {P : Program} {τ : Tab} [TabOk P τ] (T : TypeId) (d : TypeDesc) (h : Ty τ T = some d) : P.underlying T = some d := by
  unfold Ty at h
  split at h
  · rename_i i d' hf
    simp only [Option.some.injEq] at h; subst h
    exact (TabOk.all T i d' hf).2
  · cases h
theorem TabOk.sz {P : Program} {τ : Tab} [TabOk P τ] (T : TypeId) (s : Nat) (h : TySize τ T = some s) : (P.info? T).map (·.size) = some s := by
  unfold TySize at h
  split at h
  · rename_i i d' hf
    simp only [Option.some.injEq] at h; subst h
    rw [(TabOk.all (P := P) T i d' hf).1]; rfl
  · cases h

def TabAll (P : Program) : Tab → Prop
  | [] => True
  | (T, i, d) :: l => (P.info? T = some i ∧ P.underlying T = some d) ∧ TabAll P l
theorem tabAll_find {P : Program} : ∀ {τ : Tab} {T : TypeId} {i : TypeInfo} {d : TypeDesc}, TabAll P τ → findB τ T = some (i, d) → P.info? T = some i ∧ P.underlying T = some d
  | (k, i', d') :: l, T, i, d, h, hf => by
    simp only [findB] at hf
    split at hf
    · rename_i hk
      simp only [Option.some.injEq, Prod.mk.injEq] at hf
      obtain ⟨rfl, rfl⟩ := hf
      rw [← Nat.eq_of_beq_eq_true hk]; exact h.1
    · exact tabAll_find h.2 hf

def isAggD : TypeDesc → Bool
  | .struct _ => true
  | .array _ _ => true
  | _ => false

def ofCell : Value → RV
  | .slice none 0 0 => .nil
  | v => .val v
/-- The nil slice as a row. -/
def normR : RV → RV
  | .nil => .row 0 0 (fun _ => .val undef)
  | x => x
def ofVal : Value → RV
  | .agg cs => .agg (cs.toList.map ofCell)
  | v => ofCell v

/-- One cell: a value that is no struct, array or tuple. -/
def oneV : Value → Bool
  | .agg _ => false
  | .tuple _ => false
  | _ => true
def oneR : RV → Bool
  | .val v => oneV v
  | .nil => true
  | .row .. => true
  | .agg _ => false

def isAggR : RV → Bool
  | .agg _ => true
  | _ => false

def allOne : List RV → Bool
  | [] => true
  | x :: l => oneR x && allOne l
theorem allOne_mem : ∀ {l : List RV} {j : Nat} {x : RV}, allOne l = true → l[j]? = some x → oneR x = true
  | [], j, x, _, h => by simp at h
  | y :: l, j, x, ha, h => by
    simp only [allOne, Bool.and_eq_true] at ha
    cases j with
    | zero => simp at h; subst h; exact ha.1
    | succ j => exact allOne_mem ha.2 (by simpa using h)

/-- Each cell of x is one cell. -/
def fitsR (x : RV) : Bool := match x with
  | .agg l => allOne l
  | y => oneR y

/-- Part of a struct or array, read at type T. -/
def partR (τ : Tab) (T : TypeId) (l : List RV) (off : Nat) : Option RV :=
  match Ty τ T with
  | some t =>
    match isAggD t with
    | true => match TySize τ T with
      | some s => match Nat.ble (off + s) l.length with
        | true => some (.agg ((l.drop off).take s))
        | false => none
      | none => none
    | false => l[off]?
  | none => none

abbrev Res := Option (List Prop × SV)
def rv (x : RV) : Res := some ([], .d x)

def sameKind (k k' : IntKind) : Bool := decide (k = k')

def evInt (op : BinOp) (k : IntKind) (a b : Int) : Res :=
  match op with
  | .add => rv (.val (.int k (k.wrap (a + b))))
  | .sub => rv (.val (.int k (k.wrap (a - b))))
  | .mul => rv (.val (.int k (k.wrap (a * b))))
  | .quo => some ([b ≠ 0], .d (.val (.int k (k.wrap (a.tdiv b)))))
  | .rem => some ([b ≠ 0], .d (.val (.int k (a.tmod b))))
  | .eql => rv (.val (.bool (a == b)))
  | .neq => rv (.val (.bool (a != b)))
  | .lss => rv (.val (.bool (decide (a < b))))
  | .leq => rv (.val (.bool (decide (a ≤ b))))
  | .gtr => rv (.val (.bool (decide (a > b))))
  | .geq => rv (.val (.bool (decide (a ≥ b))))
  | _ => none

def evStr (op : BinOp) (x y : ByteArray) : Res :=
  match op with
  | .add => some ([((x.size + y.size : Nat) : Int) ≤ IntKind.i64.max], .d (.val (.string (x ++ y))))
  | .eql => rv (.val (.bool (x.toList == y.toList)))
  | .neq => rv (.val (.bool (!(x.toList == y.toList))))
  | .lss => rv (.val (.bool (Op.bytesLess x.toList y.toList)))
  | _ => none

def evBool (τ : Tab) (op : BinOp) (T : TypeId) (x y : Bool) : Res :=
  match Ty τ T with
  | some .bool => match op with
    | .eql => rv (.val (.bool (x == y)))
    | .neq => rv (.val (.bool (!(x == y))))
    | _ => none
  | _ => none

/-- A comparison with nil: 'here' says whether the left operand is nil. -/
def evNil (op : BinOp) (here : Bool) : Res :=
  match op with
  | .eql => rv (.val (.bool here))
  | .neq => rv (.val (.bool (!here)))
  | _ => none

def evBin (τ : Tab) (op : BinOp) (T : TypeId) : SV → SV → Res
  | .d (.val (.int k a)), .d (.val (.int k' b)) => match sameKind k k' with
    | true => evInt op k a b
    | false => none
  | .d (.val (.string x)), .d (.val (.string y)) => evStr op x y
  | .d (.val (.bool x)), .d (.val (.bool y)) => evBool τ op T x y
  | .d (.val (.func _ _ _)), .d (.val .nilFunc) => match Ty τ T with
    | some (.func _ _ _) => evNil op false
    | _ => none
  | .d (.val .nilFunc), .d (.val .nilFunc) => match Ty τ T with
    | some (.func _ _ _) => evNil op true
    | _ => none
  | .loc _ _, .d (.val (.pointer none)) => match Ty τ T with
    | some (.pointer _) => evNil op false
    | _ => none
  | .d (.val (.pointer none)), .d (.val (.pointer none)) => match Ty τ T with
    | some (.pointer _) => evNil op true
    | _ => none
  | _, _ => none

def evUn (op : UnOp) : SV → Res
  | .d (.val (.bool b)) => match op with
    | .not => rv (.val (.bool (!b)))
    | _ => none
  | .d (.val (.int k n)) => match op with
    | .neg => rv (.val (.int k (k.wrap (0 - n))))
    | _ => none
  | _ => none

/-- The bytes of elements k, k + 1, .. k + m - 1. -/
def numsFrom (f : Nat → RV) : Nat → Nat → Option (List Int)
  | _, 0 => some []
  | k, m + 1 => match f k, numsFrom f (k + 1) m with
    | .val (.int .u8 x), some l => some (x :: l)
    | _, _ => none

def evConv (τ : Tab) (src dst : TypeId) (x : SV) : Res :=
  match Ty τ src, Ty τ dst, x with
  | some (.slice e), some .string, .d (.row 1 n f) => match Ty τ e with
    | some (.int .u8) => match numsFrom f 0 n with
      | some l => rv (.val (.string (strOfNums l)))
      | none => none
    | _ => none
  | some (.int _), some (.int k), .d (.val (.int _ n)) => rv (.val (.int k (k.wrap n)))
  | some .string, some .string, .d (.val (.string s)) => rv (.val (.string s))
  | _, _, _ => none

def evExtract (x : SV) (i : Nat) : Res :=
  match x with
  | .tup l => match l[i]? with
    | some v => some ([], v)
    | none => none
  | _ => none

/-- A field's place and type. -/
def fieldOf (τ : Tab) (T : TypeId) (i : Nat) : Option (Nat × TypeId) :=
  match Ty τ T with
  | some (.struct fs) => match fs[i]? with
    | some f => some (f.offset, f.type)
    | none => none
  | _ => none

def evFieldAddr (τ : Tab) (T : TypeId) (x : SV) (i : Nat) : Res :=
  match fieldOf τ T i with
  | some (off, t) => match TySize τ t with
    | some (_ + 1) => match x with
      | .loc j o => some ([], .loc j (o + off))
      | .elem sz n f k o => some ([], .elem sz n f k (o + off))
      | _ => none
    | _ => none
  | none => none

def evField (τ : Tab) (T : TypeId) (x : SV) (i : Nat) : Res :=
  match fieldOf τ T i, x with
  | some (off, t), .d (.agg l) => (partR τ t l off).bind rv
  | _, _ => none

def evLoad (τ : Tab) (bx : List (Nat × TypeId × List RV)) (T : TypeId) : SV → Res
  | .loc i off => match findB bx i with
    | some (_, cs) => (partR τ T cs off).bind rv
    | none => none
  | .elem _ _ f k off => (partR τ T (f k).cells off).bind rv
  | _ => none

def byteAt (s : ByteArray) (i : Nat) : Int := ((s.data.getD i 0).toNat : Int)

def evIndex (τ : Tab) (T : TypeId) (x i : SV) : Res :=
  match x, i with
  | .d (.val (.string s)), .d (.val (.int _ n)) => match Ty τ T with
    | some .string => some ([0 ≤ n ∧ n < (s.size : Int)], .d (.val (.int .u8 (byteAt s n.toNat))))
    | _ => none
  | .d (.agg l), .d (.val (.int _ n)) => match Ty τ T with
    | some (.array len e) => match TySize τ e with
      | some s => match partR τ e l (n.toNat * s) with
        | some r => some ([0 ≤ n ∧ n < (len : Int)], .d r)
        | none => none
      | none => none
    | _ => none
  | _, _ => none

def evIndexAddr (τ : Tab) (T : TypeId) (x i : SV) : Res :=
  match x, i with
  | .d (.row sz n f), .d (.val (.int _ k)) => match Ty τ T with
    | some (.slice e) => match TySize τ e with
      | some s => match Nat.beq s sz with
        | true => some ([0 ≤ k ∧ k < (n : Int)], .elem sz n f k.toNat 0)
        | false => none
      | none => none
    | _ => none
  | .loc j o, .d (.val (.int _ k)) => match Ty τ T with
    | some (.array len e) => match TySize τ e with
      | some s => some ([0 ≤ k ∧ k < (len : Int)], .loc j (o + k.toNat * s))
      | none => none
    | _ => none
  | _, _ => none

/-- A bound of a slice expression: given or not. -/
def bnd (x : Option SV) (dflt : Int) : Option (List Int × Int) :=
  match x with
  | none => some ([], dflt)
  | some (.d (.val (.int _ n))) => some ([n], n)
  | _ => none

def evSlice (τ : Tab) (T : TypeId) (x : SV) (lo hi : Option SV) : Res :=
  match x with
  | .d (.val (.string s)) => match Ty τ T, bnd hi s.size, bnd lo 0 with
    | some .string, some (hs, h), some (ls, l) => some (hs.map (fun h => 0 ≤ h ∧ h ≤ (s.size : Int)) ++ ls.map (fun l => 0 ≤ l ∧ l ≤ h), .d (.val (.string (s.extract l.toNat h.toNat))))
    | _, _, _ => none
  | .d (.row sz n f) => match Ty τ T, bnd hi n, bnd lo 0 with
    | some (.slice e), some (hs, h), some (ls, l) => match TySize τ e with
      | some s => match Nat.beq s sz with
        | true => some (hs.map (fun h => 0 ≤ h ∧ h ≤ (n : Int)) ++ ls.map (fun l => 0 ≤ l ∧ l ≤ h), .d (.row sz (h.toNat - l.toNat) (fun k => f (l.toNat + k))))
        | false => none
      | none => none
    | _, _, _ => none
  | _ => none

def evNilCheck : SV → Res
  | .loc i o => some ([], .loc i o)
  | .elem sz n f k o => some ([], .elem sz n f k o)
  | .d (.val (.func (.func g) a b)) => rv (.val (.func (.func g) a b))
  | _ => none

/-- The cells of l with those of x laid from off on. -/
def layAt (l : List RV) (off : Nat) (x : List RV) : List RV := l.take off ++ x ++ l.drop (off + x.length)

/-- Parts laid at the places that 'pl' gives. -/
def layParts (pl : Nat → Option (Nat × Nat)) (cells : List RV) : List (Nat × RV) → Option (List RV)
  | [] => some cells
  | (i, x) :: rest => match pl i with
    | none => none
    | some (off, s) => match Nat.beq x.cells.length s && Nat.ble (off + s) cells.length && (oneR x || isAggR x) with
      | true => layParts pl (layAt cells off x.cells) rest
      | false => none

/-- Look every operand up. -/
def lookAll (lk : Operand → Option SV) : List Operand → Option (List RV)
  | [] => some []
  | x :: l => match lk x, lookAll lk l with
    | some (.d r), some rs => some (normR r :: rs)
    | _, _ => none
def lookParts (lk : Operand → Option SV) : List (Nat × Operand) → Option (List (Nat × RV))
  | [] => some []
  | (i, x) :: l => match lk x, lookParts lk l with
    | some (.d r), some rs => some ((i, normR r) :: rs)
    | _, _ => none

def zeroOf (τ : Tab) (T : TypeId) : Option RV :=
  match findB τ T with
  | some (i, _) => match i.zero with
    | some v => some (ofVal v)
    | none => none
  | none => none

theorem TabOk.zr {P : Program} {τ : Tab} [TabOk P τ] (T : TypeId) (z : RV) (h : zeroOf τ T = some z) : ∃ i v, P.info? T = some i ∧ i.zero = some v ∧ z = ofVal v := by
  unfold zeroOf at h
  split at h
  · rename_i i d hf
    split at h
    · rename_i v hv
      simp only [Option.some.injEq] at h
      exact ⟨i, v, (TabOk.all (P := P) T i d hf).1, hv, h.symm⟩
    · cases h
  · cases h

/-- Each field's place and size. -/
def placesL (τ : Tab) : List Field → Option (List (Nat × Nat))
  | [] => some []
  | f :: fs => match TySize τ f.type, placesL τ fs with
    | some s, some l => some ((f.offset, s) :: l)
    | _, _ => none

def places (τ : Tab) (T : TypeId) : Option (Nat → Option (Nat × Nat)) :=
  match Ty τ T with
  | some (.struct fs) => match placesL τ fs.toList with
    | some l => some fun i => l[i]?
    | none => none
  | some (.array _ e) => match TySize τ e with
    | some s => some fun i => some (i * s, s)
    | none => none
  | _ => none

def evBuild (τ : Tab) (lk : Operand → Option SV) (T : TypeId) (parts : List (Nat × Operand)) : Res :=
  match zeroOf τ T, places τ T, lookParts lk parts with
  | some z, some pl, some ps => match layParts pl z.cells ps with
    | some cs => rv (.agg cs)
    | none => none
  | _, _, _ => none

/-- Parts 0, 1, .. in order, each of s cells. -/
def inOrder (s : Nat) : Nat → List (Nat × RV) → Bool
  | _, [] => true
  | k, (i, x) :: l => Nat.beq i k && Nat.beq x.cells.length s && fitsR x && inOrder s (k + 1) l

def evBuildSlice (τ : Tab) (lk : Operand → Option SV) (T : TypeId) (len : Nat) (parts : List (Nat × Operand)) : Res :=
  match Ty τ T with
  | some (.slice e) => match TySize τ e, lookParts lk parts, zeroOf τ e with
    | some s, some ps, some _ => match Nat.beq ps.length len && inOrder s 0 ps && Nat.ble 1 (len * s) && Nat.ble (len * s) 16777216 with
      | true => rv (.row s len (fun k => ((ps.map (·.2)).getD k default)))
      | false => none
    | _, _, _ => none
  | _ => none

def evLen (τ : Tab) (T : TypeId) : SV → Res
  | .d .nil => match Ty τ T with
    | some (.slice _) => rv (.val (.int .i64 0))
    | _ => none
  | .d (.val (.string s)) => match Ty τ T with
    | some .string => rv (.val (.int .i64 s.size))
    | _ => none
  | .d (.row _ n _) => match Ty τ T with
    | some (.slice _) => rv (.val (.int .i64 n))
    | _ => none
  | _ => none

def evMinMax (isMax : Bool) : SV → SV → Res
  | .d (.val (.int k x)), .d (.val (.int _ y)) => rv (.val (.int k (match isMax with | true => max x y | false => min x y)))
  | _, _ => none

/-- Two ways to a value of one kind. -/
def mux (c : Bool) (a b : Operand) : SV → SV → Res
  | .d (.val (.bool x)), .d (.val (.bool y)) => match b, a with
    | .const (.bool false), _ => rv (.val (.bool (c && x)))
    | _, .const (.bool true) => rv (.val (.bool (c || y)))
    | _, _ => rv (.val (.bool (bif c then x else y)))
  | .d (.val (.int k x)), .d (.val (.int k' y)) => match sameKind k k' with
    | true => rv (.val (.int k (bif c then x else y)))
    | false => none
  | _, _ => none

/-- What a call of a Go function answers: conditions and a result. -/
abbrev Spec := FuncId → List RV → Res

def evCallee (lk : Operand → Option SV) (f : Operand) : Option FuncId :=
  match lk f with
  | some (.d (.val (.func (.func g) ⟨[]⟩ ⟨[]⟩))) => some g
  | _ => none

def evCall (τ : Tab) (sp : Spec) (lk : Operand → Option SV) (c : Call) : Res :=
  match c.callee with
  | .builtin .len => match c.args.toList, c.argTypes.toList with
    | [x], [T] => (lk x).bind (evLen τ T)
    | _, _ => none
  | .builtin .max => match c.args.toList with
    | [x, y] => match lk x, lk y with
      | some a, some b => evMinMax true a b
      | _, _ => none
    | _ => none
  | .builtin .min => match c.args.toList with
    | [x, y] => match lk x, lk y with
      | some a, some b => evMinMax false a b
      | _, _ => none
    | _ => none
  | .value f => match evCallee lk f, lookAll lk c.args.toList with
    | some g, some args => sp g args
    | _, _ => none
  | _ => none

def ev2 (lk : Operand → Option SV) (x y : Operand) (f : SV → SV → Res) : Res :=
  match lk x, lk y with
  | some a, some b => f a b
  | _, _ => none

def optLook (lk : Operand → Option SV) : Option Operand → Option (Option SV)
  | none => some none
  | some x => match lk x with
    | some v => some (some v)
    | none => none

/-- An operation that leaves all boxes as they are. 'lkG' looks an operand up under further guards. -/
def evOp (τ : Tab) (sp : Spec) (bx : List (Nat × TypeId × List RV)) (lkG : List (Nat × Bool) → Operand → Option SV) (o : Op) : Res :=
  let lk := lkG []
  match o with
  | .move x => (lk x).bind fun v => some ([], v)
  | .assign x => (lk x).bind fun v => some ([], v)
  | .pick (.tmp s) a b => match lk (.tmp s), lkG [(s, true)] a, lkG [(s, false)] b with
    | some (.d (.val (.bool c))), some x, some y => mux c a b x y
    | _, _, _ => none
  | .binOp op T x y _ => ev2 lk x y (evBin τ op T)
  | .unOp op _ x => (lk x).bind (evUn op)
  | .convert s t x => (lk x).bind (evConv τ s t)
  | .extract x i => (lk x).bind (evExtract · i)
  | .fieldAddr T x i => (lk x).bind (evFieldAddr τ T · i)
  | .field T x i => (lk x).bind (evField τ T · i)
  | .load T x => (lk x).bind (evLoad τ bx T)
  | .index T x i => ev2 lk x i (evIndex τ T)
  | .indexAddr T x i => ev2 lk x i (evIndexAddr τ T)
  | .slice T x lo hi none => match lk x, optLook lk lo, optLook lk hi with
    | some v, some l, some h => evSlice τ T v l h
    | _, _, _ => none
  | .nilCheck x => (lk x).bind evNilCheck
  | .build T parts => evBuild τ lk T parts.toList
  | .buildSlice T len parts => evBuildSlice τ lk T len parts.toList
  | .call c => evCall τ sp lk c
  | _ => none

end Go.Sim
