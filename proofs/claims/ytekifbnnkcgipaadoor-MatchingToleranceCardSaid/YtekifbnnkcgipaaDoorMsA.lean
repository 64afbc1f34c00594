/- Instructions as data; contracts of giro/message's small functions. Conditions: none. -/
import Derived.Test.YtekifbnnkcgipaaDoorIdG
import Derived.Test.YtekifbnnkcgipaaDoorSimM
namespace Go.Proofs.YtekifbnnkcgipaaDoor
open Go.Sim

/-- An instruction's fields; its links as a slice. -/
structure Ins where
  ref : ByteArray
  kind : Int
  sender : ByteArray
  cp : ByteArray
  side : Int
  asset : ByteArray
  qty : Int
  amt : Int
  tday : Int
  sday : Int
  prio : Int
  part : Bool
  lot : Int
  hold : Bool
  rsv : Bool
  ln : Nat
  lf : Nat → RV
abbrev vS (s : ByteArray) : RV := .val (.string s)
abbrev vI (n : Int) : RV := .val (.int .i64 n)
abbrev vB (b : Bool) : RV := .val (.bool b)
def Ins.rv (i : Ins) : RV := .agg [vS i.ref, vI i.kind, vS i.sender, vS i.cp, vI i.side, vS i.asset, vI i.qty, vI i.amt, vI i.tday, vI i.sday, vI i.prio, vB i.part, vI i.lot, vB i.hold, vB i.rsv, .row 2 i.ln i.lf]

def sOf : RV → Option ByteArray
  | .val (.string s) => some s
  | _ => none
def iOf : RV → Option Int
  | .val (.int .i64 n) => some n
  | _ => none
def bOf : RV → Option Bool
  | .val (.bool b) => some b
  | _ => none
theorem sOf_eq {x : RV} {s : ByteArray} (h : sOf x = some s) : x = vS s := by
  unfold sOf at h
  split at h
  · simp only [Option.some.injEq] at h; rw [h]
  · cases h
theorem iOf_eq {x : RV} {s : Int} (h : iOf x = some s) : x = vI s := by
  unfold iOf at h
  split at h
  · simp only [Option.some.injEq] at h; rw [h]
  · cases h
theorem bOf_eq {x : RV} {s : Bool} (h : bOf x = some s) : x = vB s := by
  unfold bOf at h
  split at h
  · simp only [Option.some.injEq] at h; rw [h]
  · cases h
def ob {α β : Type} (x : Option α) (f : α → Option β) : Option β := match x with
  | some a => f a
  | none => none
theorem ob_eq {α β : Type} {x : Option α} {f : α → Option β} {y : β} (h : ob x f = some y) : ∃ a, x = some a ∧ f a = some y := by
  cases x with
  | none => cases h
  | some a => exact ⟨a, rfl, h⟩
def lOf : RV → Option (Nat × (Nat → RV))
  | .nil => some (0, fun _ => .nil)
  | .row sz n f => match Nat.beq sz 2 with
    | true => some (n, f)
    | false => none
  | _ => none
theorem lOf_den {x : RV} {l : Nat × (Nat → RV)} (h : lOf x = some l) {N : Nat → Prop} {w : World} {v : Value} (hd : RDen N w x v) : RDen N w (.row 2 l.1 l.2) v := by
  unfold lOf at h
  split at h
  · simp only [Option.some.injEq] at h; subst h
    cases hd; exact .nil _ _
  · split at h
    · rename_i hsz
      simp only [Option.some.injEq] at h; subst h
      rw [Nat.eq_of_beq_eq_true hsz] at hd; exact hd
    · cases h
  · cases h
def insOf : RV → Option Ins
  | .agg [a0, a1, a2, a3, a4, a5, a6, a7, a8, a9, a10, a11, a12, a13, a14, a15] =>
    ob (sOf a0) fun b0 => ob (iOf a1) fun b1 => ob (sOf a2) fun b2 => ob (sOf a3) fun b3 => ob (iOf a4) fun b4 => ob (sOf a5) fun b5 => ob (iOf a6) fun b6 => ob (iOf a7) fun b7 => ob (iOf a8) fun b8 => ob (iOf a9) fun b9 => ob (iOf a10) fun b10 =>
    ob (bOf a11) fun b11 => ob (iOf a12) fun b12 => ob (bOf a13) fun b13 => ob (bOf a14) fun b14 => ob (lOf a15) fun b15 => some ⟨b0, b1, b2, b3, b4, b5, b6, b7, b8, b9, b10, b11, b12, b13, b14, b15.1, b15.2⟩
  | _ => none
theorem cells_last {N : Nat → Prop} {w : World} {l : List RV} {x y : RV} {vs : List Value} (h : Cells N w (l ++ [x]) vs) (hxy : ∀ v, RDen N w x v → RDen N w y v) : Cells N w (l ++ [y]) vs := by
  refine ⟨by rw [h.1]; simp, fun j z v hz hv => ?_⟩
  rcases Nat.lt_or_ge j l.length with hlt | hge
  · rw [List.getElem?_append_left hlt] at hz
    exact h.2 j z v (by rw [List.getElem?_append_left hlt]; exact hz) hv
  · obtain ⟨m, rfl⟩ : ∃ m, j = l.length + m := ⟨j - l.length, by omega⟩
    rw [List.getElem?_append_right (by omega), Nat.add_sub_cancel_left] at hz
    cases m with
    | zero =>
      simp at hz; subst hz
      exact hxy v (h.2 l.length x v (by simp) hv)
    | succ m => simp at hz
theorem insOf_den {x : RV} {i : Ins} (h : insOf x = some i) {N : Nat → Prop} {w : World} {v : Value} (hd : RDen N w x v) : RDen N w i.rv v := by
  unfold insOf at h
  split at h
  · rename_i a0 a1 a2 a3 a4 a5 a6 a7 a8 a9 a10 a11 a12 a13 a14 a15
    obtain ⟨b0, e0, h⟩ := ob_eq h
    obtain ⟨b1, e1, h⟩ := ob_eq h
    obtain ⟨b2, e2, h⟩ := ob_eq h
    obtain ⟨b3, e3, h⟩ := ob_eq h
    obtain ⟨b4, e4, h⟩ := ob_eq h
    obtain ⟨b5, e5, h⟩ := ob_eq h
    obtain ⟨b6, e6, h⟩ := ob_eq h
    obtain ⟨b7, e7, h⟩ := ob_eq h
    obtain ⟨b8, e8, h⟩ := ob_eq h
    obtain ⟨b9, e9, h⟩ := ob_eq h
    obtain ⟨b10, e10, h⟩ := ob_eq h
    obtain ⟨b11, e11, h⟩ := ob_eq h
    obtain ⟨b12, e12, h⟩ := ob_eq h
    obtain ⟨b13, e13, h⟩ := ob_eq h
    obtain ⟨b14, e14, h⟩ := ob_eq h
    obtain ⟨b15, e15, h⟩ := ob_eq h
    simp only [Option.some.injEq] at h
    subst h
    rw [sOf_eq e0, iOf_eq e1, sOf_eq e2, sOf_eq e3, iOf_eq e4, sOf_eq e5, iOf_eq e6, iOf_eq e7, iOf_eq e8, iOf_eq e9, iOf_eq e10, bOf_eq e11, iOf_eq e12, bOf_eq e13, bOf_eq e14] at hd
    cases hd with
    | agg _ vs hl hd =>
      have h0 : Cells N w ([vS b0, vI b1, vS b2, vS b3, vI b4, vS b5, vI b6, vI b7, vI b8, vI b9, vI b10, vB b11, vI b12, vB b13, vB b14] ++ [a15]) vs := ⟨hl, hd⟩
      exact (cells_last h0 fun v hv => lOf_den e15 hv).agg
  · cases h
theorem pure_args {g : FuncId} {args args' : List RV} {x : SV} (h : Pure Tryd.prog g args' x) (ha : ∀ (N : Nat → Prop) (w : World) (vs : List Value), Cells N w args vs → Cells N w args' vs) : Pure Tryd.prog g args x := fun N w vs hN hc => h N w vs hN (ha N w vs hc)
theorem cells_one {N : Nat → Prop} {w : World} {x y : RV} (h : ∀ v, RDen N w x v → RDen N w y v) {vs : List Value} (hc : Cells N w [x] vs) : Cells N w [y] vs := cells_last (l := []) hc h

def eIns (f : Ins → SV) : Entry := fun args => match args with
  | [x] => ob (insOf x) fun i => some ([], f i)
  | _ => none
theorem eIns_ok {g : FuncId} {f : Ins → SV} (hg : Sim.Enters Tryd.prog g) (h : ∀ i : Ins, Pure Tryd.prog g [i.rv] (f i)) : EntryOk Tryd.prog g (eIns f) := by
  refine ⟨hg, fun args ps x hx hp => ?_⟩
  unfold eIns at hx
  split at hx
  · obtain ⟨i, e, hx⟩ := ob_eq hx
    simp only [Option.some.injEq, Prod.mk.injEq] at hx
    obtain ⟨rfl, rfl⟩ := hx
    exact pure_args (h i) fun N w vs hc => cells_one (fun v hv => insOf_den e hv) hc
  · cases hx

/-- Is n from lo to hi? -/
def wI (n lo hi : Int) : Bool := decide (n ≥ lo) && decide (n ≤ hi)
theorem wI_iff (n lo hi : Int) : wI n lo hi = true ↔ lo ≤ n ∧ n ≤ hi := by simp [wI]
def e3I (f : Int → Int → Int → SV) : Entry := fun args => match args with
  | [.val (.int .i64 a), .val (.int .i64 b), .val (.int .i64 c)] => some ([], f a b c)
  | _ => none
theorem e3I_ok {g : FuncId} {f : Int → Int → Int → SV} (hg : Sim.Enters Tryd.prog g) (h : ∀ a b c : Int, Pure Tryd.prog g [vI a, vI b, vI c] (f a b c)) : EntryOk Tryd.prog g (e3I f) := by
  refine ⟨hg, fun args ps x hx hp => ?_⟩
  unfold e3I at hx
  split at hx
  · simp only [Option.some.injEq, Prod.mk.injEq] at hx
    obtain ⟨rfl, rfl⟩ := hx
    exact h _ _ _
  · cases hx
abbrev bv (b : Bool) : SV := .d (.val (.bool b))
abbrev iv (n : Int) : SV := .d (.val (.int .i64 n))
theorem within_pure (a b c : Int) : Pure Tryd.prog 77 [vI a, vI b, vI c] (bv (wI a b c)) :=
  pure_vc (τ := tab) mixed noSpec_ok Tryd.f77 Tryd.func77 (by kernel_rfl) rfl (by kernel_rfl) (fin_of (y := bv (wI a b c)) rfl) (by kernel_rfl)
theorem within64_pure (a b c : Int) : Pure Tryd.prog 82 [vI a, vI b, vI c] (bv (wI a b c)) :=
  pure_vc (τ := tab) mixed noSpec_ok Tryd.f82 Tryd.func82 (by kernel_rfl) rfl (by kernel_rfl) (fin_of (y := bv (wI a b c)) rfl) (by kernel_rfl)
theorem within_ok : EntryOk Tryd.prog 77 (e3I fun a b c => bv (wI a b c)) := e3I_ok (enters Tryd.f77 Tryd.func77 (by kernel_rfl)) within_pure
theorem within64_ok : EntryOk Tryd.prog 82 (e3I fun a b c => bv (wI a b c)) := e3I_ok (enters Tryd.f82 Tryd.func82 (by kernel_rfl)) within64_pure

def Ins.isSec (i : Ins) : Bool := (i.kind == 1) || (i.kind == 2)
def Ins.isCol (i : Ins) : Bool := (i.kind == 3) || (i.kind == 4)
def cash : ByteArray := ⟨#[67, 65, 83, 72]⟩
def Ins.isAst (i : Ins) : Bool := bif i.kind == 0 then i.asset.toList == cash.toList else validB 0 i.asset
def Ins.maxLot (i : Ins) : Int := bif i.part then i.qty else 0
def bndB (n : Int) (used : Bool) : Bool := bif used then wI n 1 1000000000000000 else n == 0

theorem isSec_pure (i : Ins) : Pure Tryd.prog 79 [i.rv] (bv i.isSec) :=
  pure_vc (τ := tab) mixed noSpec_ok Tryd.f79 Tryd.func79 (by kernel_rfl) rfl (by kernel_rfl) (fin_of (y := bv i.isSec) rfl) (by kernel_rfl)
theorem isCol_pure (i : Ins) : Pure Tryd.prog 78 [i.rv] (bv i.isCol) :=
  pure_vc (τ := tab) mixed noSpec_ok Tryd.f78 Tryd.func78 (by kernel_rfl) rfl (by kernel_rfl) (fin_of (y := bv i.isCol) rfl) (by kernel_rfl)
theorem isSec_ok : EntryOk Tryd.prog 79 (eIns fun i => bv i.isSec) := eIns_ok (enters Tryd.f79 Tryd.func79 (by kernel_rfl)) isSec_pure
theorem isCol_ok : EntryOk Tryd.prog 78 (eIns fun i => bv i.isCol) := eIns_ok (enters Tryd.f78 Tryd.func78 (by kernel_rfl)) isCol_pure
def tabMa : List (Nat × Entry) := [(23, eValid), (82, e3I fun a b c => bv (wI a b c)), (79, eIns fun i => bv i.isSec)]
theorem tabMa_ok : SpecOk Tryd.prog (table tabMa) := table_ok ⟨eValid_ok, within64_ok, isSec_ok, trivial⟩
theorem isAst_pure (i : Ins) : Pure Tryd.prog 80 [i.rv] (bv i.isAst) := by
  have key : ((i.kind == 0) = true → Fin (bv (i.asset.toList == cash.toList)) (bv i.isAst)) ∧ ((i.kind == 0) = false → Fin (bv (validB 0 i.asset)) (bv i.isAst)) :=
    ⟨fun h => fin_of (by unfold Ins.isAst; rw [h]; rfl), fun h => fin_of (by unfold Ins.isAst; rw [h]; rfl)⟩
  exact pure_vc (τ := tab) mixed tabMa_ok Tryd.f80 Tryd.func80 (by kernel_rfl) rfl (by kernel_rfl) key (by kernel_rfl)
theorem isAst_ok : EntryOk Tryd.prog 80 (eIns fun i => bv i.isAst) := eIns_ok (enters Tryd.f80 Tryd.func80 (by kernel_rfl)) isAst_pure
theorem maxLot_pure (i : Ins) : Pure Tryd.prog 83 [i.rv] (iv i.maxLot) := by
  have key : (i.part = true → Fin (iv i.qty) (iv i.maxLot)) ∧ (i.part = false → Fin (iv 0) (iv i.maxLot)) :=
    ⟨fun h => fin_of (by unfold Ins.maxLot; rw [h]; rfl), fun h => fin_of (by unfold Ins.maxLot; rw [h]; rfl)⟩
  exact pure_vc (τ := tab) mixed noSpec_ok Tryd.f83 Tryd.func83 (by kernel_rfl) rfl (by kernel_rfl) key (by kernel_rfl)
theorem maxLot_ok : EntryOk Tryd.prog 83 (eIns fun i => iv i.maxLot) := eIns_ok (enters Tryd.f83 Tryd.func83 (by kernel_rfl)) maxLot_pure
theorem needs_pure (i : Ins) : Pure Tryd.prog 67 [i.rv] (bv i.isSec) :=
  pure_vc (τ := tab) mixed tabMa_ok Tryd.f67 Tryd.func67 (by kernel_rfl) rfl (by kernel_rfl) (fin_of (y := bv i.isSec) rfl) (by kernel_rfl)
theorem needs_ok : EntryOk Tryd.prog 67 (eIns fun i => bv i.isSec) := eIns_ok (enters Tryd.f67 Tryd.func67 (by kernel_rfl)) needs_pure
theorem bnd_pure (n : Int) (b : Bool) : Pure Tryd.prog 81 [vI n, vB b] (bv (bndB n b)) := by
  have key : (b = true → Fin (bv (wI n 1 1000000000000000)) (bv (bndB n b))) ∧ (b = false → Fin (bv (n == 0)) (bv (bndB n b))) :=
    ⟨fun h => fin_of (by unfold bndB; rw [h]; rfl), fun h => fin_of (by unfold bndB; rw [h]; rfl)⟩
  exact pure_vc (τ := tab) mixed tabMa_ok Tryd.f81 Tryd.func81 (by kernel_rfl) rfl (by kernel_rfl) key (by kernel_rfl)
def eBnd : Entry := fun args => match args with
  | [.val (.int .i64 n), .val (.bool b)] => some ([], bv (bndB n b))
  | _ => none
theorem eBnd_ok : EntryOk Tryd.prog 81 eBnd := by
  refine ⟨enters Tryd.f81 Tryd.func81 (by kernel_rfl), fun args ps x h hp => ?_⟩
  unfold eBnd at h
  split at h
  · simp only [Option.some.injEq, Prod.mk.injEq] at h
    obtain ⟨rfl, rfl⟩ := h
    exact bnd_pure _ _
  · cases h

/-- A rule of message.first. -/
def ruleRV (x : Bool × Int) : RV := .agg [vB x.1, vI x.2]
def firstR : List (Bool × Int) → Int
  | [] => 0
  | (b, e) :: l => bif b then e else firstR l
def eRule1 : Entry := fun args => match args with
  | [.agg [.val (.bool b), .val (.int .i64 _)]] => some ([], bv b)
  | _ => none
theorem rule1_pure (x : Bool × Int) : Pure Tryd.prog 112 [ruleRV x] (bv x.1) :=
  pure_vc (τ := tab) mixed noSpec_ok Tryd.f112 Tryd.func112 (by kernel_rfl) rfl (by kernel_rfl) (fin_of (y := bv x.1) rfl) (by kernel_rfl)
theorem eRule1_ok : EntryOk Tryd.prog 112 eRule1 := by
  refine ⟨enters Tryd.f112 Tryd.func112 (by kernel_rfl), fun args ps x h hp => ?_⟩
  unfold eRule1 at h
  split at h
  · rename_i b e
    simp only [Option.some.injEq, Prod.mk.injEq] at h
    obtain ⟨rfl, rfl⟩ := h
    exact rule1_pure (b, e)
  · cases h

/-- The first of n places where p holds, or -1. -/
def idxF (p : Nat → Bool) (n : Nat) : Int := match scan p n 0 with
  | some k => k
  | none => -1
def ixSt (nt : Nat) (s c : RV) (n : Nat) (k : Int) : St := ⟨nt, [(0, .d s), (1, .d c), (7, iv n), (8, iv k)], [], [], [], 0⟩
def tabR1 : List (Nat × Entry) := [(112, eRule1)]
theorem tabR1_ok : SpecOk Tryd.prog (table tabR1) := table_ok ⟨eRule1_ok, trivial⟩
def rulesF (b : Nat → Bool) (e : Nat → Int) : Nat → RV := fun k => ruleRV (b k, e k)
def fnRV (g : FuncId) : RV := .val (.func (.func g) #[] #[])
set_option maxRecDepth 100000 in
theorem idxRule_pure (n : Nat) (hn : n ≤ 1000) (b : Nat → Bool) (e : Nat → Int) :
    Pure Tryd.prog 111 [.row 2 n (rulesF b e), fnRV 112] (iv (idxF b n)) := by
  refine pure_list (τ := tab) Tryd.f111 Tryd.func111 (by kernel_rfl) rfl (by kernel_rfl) ?_
  refine wpL_cut (τ := tab) (sp := table tabR1) mixed tabR1_ok 2 (.keep [0, 1, 7, 8]) (fun _ : Unit => True) (fun _ => ixSt 19 (.row 2 n (rulesF b e)) (fnRV 112) n 0)
    (Eq.mp (by kernel_rfl) (show ∃ _ : Unit, True ∧ some (ixSt 19 (.row 2 n (rulesF b e)) (fnRV 112) n 0) = some (ixSt 19 (.row 2 n (rulesF b e)) (fnRV 112) n 0) from ⟨(), trivial, rfl⟩)) fun _ _ => ?_
  refine wpL_loop (by kernel_rfl) (fun k : Nat => ixSt 19 (.row 2 n (rulesF b e)) (fnRV 112) n k) (fun k => n - k) (fun k => k ≤ n ∧ scan b (n - k) k = scan b n 0) (.keep [0, 1, 7, 8]) (.keep []) (fun _ : Unit => idxF b n = -1) (fun _ => ⟨19, [], [], [], [], 0⟩) 0 ⟨Nat.zero_le n, rfl⟩ (fun k hk => ?_) fun _ hy => ?_
  · obtain ⟨hk, hsc⟩ := hk
    have key : (decide ((k : Int) < (n : Int)) = true → ((0 : Int) ≤ k ∧ (k : Int) < (n : Int)) ∧ (b k = true → Fin (iv k) (iv (idxF b n))) ∧
          (b k = false → ∃ k' : Nat, n - k' < n - k ∧ (k' ≤ n ∧ scan b (n - k') k' = scan b n 0) ∧ some (ixSt 19 (.row 2 n (rulesF b e)) (fnRV 112) n (IntKind.i64.wrap ((k : Int) + 1))) = some (ixSt 19 (.row 2 n (rulesF b e)) (fnRV 112) n k'))) ∧
        (decide ((k : Int) < (n : Int)) = false → ∃ y : Unit, idxF b n = -1 ∧ some (⟨19, [], [], [], [], 0⟩ : St) = some ((fun _ => ⟨19, [], [], [], [], 0⟩) y)) := by
      refine ⟨fun h => ?_, fun h => ?_⟩
      · have hlt : k < n := by have := of_decide_eq_true h; omega
        obtain ⟨m, hm⟩ : ∃ m, n - k = m + 1 := ⟨n - k - 1, by omega⟩
        rw [hm, scan] at hsc
        refine ⟨⟨by omega, by omega⟩, fun hb => fin_of ?_, fun hb => ⟨k + 1, by omega, ⟨by omega, ?_⟩, by rw [i64_succ k (by omega)]⟩⟩
        · rw [hb] at hsc
          unfold idxF
          rw [← hsc]; rfl
        · rw [hb] at hsc
          rw [← hsc, show n - (k + 1) = m by omega]; rfl
      · have hge : k = n := by have := of_decide_eq_false h; omega
        subst hge
        refine ⟨(), ?_, rfl⟩
        unfold idxF
        rw [← hsc, Nat.sub_self]; rfl
    exact vcL_end (τ := tab) (sp := table tabR1) mixed tabR1_ok _ _ _ (Eq.mp (by kernel_rfl) key)
  · exact vcL_end (τ := tab) (sp := table tabR1) mixed tabR1_ok _ _ _ (Eq.mp (by kernel_rfl) (fin_of (y := iv (-1)) (x := iv (idxF b n)) (by rw [hy])))
end Go.Proofs.YtekifbnnkcgipaaDoor
