/- Contracts of girolaw18.Own and Back. Conditions: links that are links, at most 1000. -/
import Derived.Test.YtekifbnnkcgipaaDoorMsH
namespace Go.Proofs.YtekifbnnkcgipaaDoor
open Go.Sim

def Ins.sc (i : Ins) (l : SV) : List SV := [.d (vS i.ref), .d (vI i.kind), .d (vS i.sender), .d (vS i.cp), .d (vI i.side), .d (vS i.asset), .d (vI i.qty), .d (vI i.amt), .d (vI i.tday), .d (vI i.sday), .d (vI i.prio), .d (vB i.part), .d (vI i.lot), .d (vB i.hold), .d (vB i.rsv), l]
def noIns : Ins := ⟨⟨#[]⟩, 0, ⟨#[]⟩, ⟨#[]⟩, 0, ⟨#[]⟩, 0, 0, 0, 0, 0, false, 0, false, false, 0, fun _ => .nil⟩
theorem lkF_push (i : Ins) (n : Nat) (f g : Nat → RV) (hf : ∀ q, q < n → f q = lkF i.lt i.lr q) (hg : g 0 = lkRV (i.lt n) (i.lr n)) (k : Nat) (h : k < n + 1) : joinF n f g k = lkF i.lt i.lr k := by
  unfold joinF
  cases hb : Nat.blt k n with
  | true => exact hf k (Nat.le_of_ble_eq_true hb)
  | false =>
    have hge : ¬ k < n := fun hlt => by rw [show Nat.blt k n = true from Nat.ble_eq_true_of_le hlt] at hb; cases hb
    obtain rfl : k = n := by omega
    simp only [cond_false, Nat.sub_self]
    exact hg
theorem own_round (i : Ins) (n : Nat) (f : Nat → RV) (st : Nat → (Nat → RV) → Int → St) (out : Nat → (Nat → RV) → St) (h : n ≤ i.ln) (hln : i.ln ≤ 1000) (hf : ∀ q, q < n → f q = lkF i.lt i.lr q) :
    (decide ((n : Int) < (i.ln : Int)) = true → ((0 : Int) ≤ n ∧ (n : Int) < (i.ln : Int)) ∧ ((0 : Int) ≤ n ∧ (n : Int) < (i.ln : Int)) ∧ (n + 1) * 24 ≤ 140737488351232 ∧
      ∃ x : Nat × (Nat → RV), i.ln - x.1 < i.ln - n ∧ (x.1 ≤ i.ln ∧ ∀ q, q < x.1 → x.2 q = lkF i.lt i.lr q) ∧ some (st (n + 1) (joinF n f fun q => [lkRV (i.lt n) (i.lr n)].getD q default) (IntKind.i64.wrap ((n : Int) + 1))) = some (st x.1 x.2 (x.1 : Int))) ∧
    (decide ((n : Int) < (i.ln : Int)) = false → ∃ y : Nat → RV, (∀ q, q < i.ln → y q = lkF i.lt i.lr q) ∧ some (out n f) = some (out i.ln y)) := by
  refine ⟨fun hd => ?_, fun hd => ?_⟩
  · have hlt : n < i.ln := by have := of_decide_eq_true hd; omega
    refine ⟨⟨by omega, by omega⟩, ⟨by omega, by omega⟩, by omega, (n + 1, joinF n f fun q => [lkRV (i.lt n) (i.lr n)].getD q default), by show i.ln - (n + 1) < i.ln - n; omega, ⟨hlt, fun q hq => lkF_push i n f (fun q => [lkRV (i.lt n) (i.lr n)].getD q default) hf rfl q hq⟩, by rw [i64_succ n (by omega)]⟩
  · have hge : n = i.ln := by have := of_decide_eq_false hd; omega
    subst hge
    exact ⟨f, hf, rfl⟩

def owSt (i : Ins) (n : Nat) (f : Nat → RV) (k : Int) : St := ⟨62, [(1, .d (.ref i.cells)), (2, .loc 2 0), (3, .loc 3 0), (4, iv k)], [], [(3, 52, i.sc (.own 0)), (2, 52, noIns.sc (.d .nil))], [(0, ⟨122, 2, n, f⟩)], 1⟩
def owOut (i : Ins) (n : Nat) (f : Nat → RV) : St := ⟨62, [(2, .loc 2 0), (3, .loc 3 0)], [], [(3, 52, i.sc (.own 0)), (2, 52, noIns.sc (.d .nil))], [(0, ⟨122, 2, n, f⟩)], 1⟩
def owEnd (i : Ins) (n : Nat) (f : Nat → RV) : St := ⟨62, [(2, .loc 2 0), (3, .loc 3 0)], [], [(3, 52, i.sc (.d (.row 2 n f))), (2, 52, noIns.sc (.d .nil))], [], 1⟩
set_option maxRecDepth 100000 in
set_option maxHeartbeats 1000000 in
theorem own_nrm (i : Ins) (hln : i.ln ≤ 1000) : Pure Tryd.prog 33 [i.nrm.rv] (.d i.nrm.rv) := by
  refine pure_list (τ := tab) Tryd.f33 Tryd.func33 (by kernel_rfl) rfl (by kernel_rfl) ?_
  have key0 : ∃ _ : Unit, True ∧ some (owSt i.nrm 0 (fun _ => .nil) 0) = some (owSt i.nrm 0 (fun _ => .nil) 0) := ⟨(), trivial, rfl⟩
  have keyE : ∃ _ : Unit, True ∧ some (owEnd i.nrm i.ln (lkF i.lt i.lr)) = some (owEnd i.nrm i.ln (lkF i.lt i.lr)) := ⟨(), trivial, rfl⟩
  refine cutK (τ := tab) (sp := noSpec) mixed noSpec_ok 3 (.both (.frzB [1]) (.re [1, 2, 3, 4] ⟨[], [], [(3, [(15, 0)])], [(0, ⟨122, 2, 0, fun _ => .nil⟩)]⟩ 1)) (fun _ : Unit => True) (fun _ => owSt i.nrm 0 (fun _ => .nil) 0)
    key0 (by kernel_rfl) fun _ _ => ?_
  refine wpL_loop (by kernel_rfl) (fun x : Nat × (Nat → RV) => owSt i.nrm x.1 x.2 x.1) (fun x => i.ln - x.1) (fun x => x.1 ≤ i.ln ∧ ∀ q, q < x.1 → x.2 q = lkF i.lt i.lr q) (.ren [1, 2, 3, 4] 1 0 1) (.ren [2, 3] 0 0 1)
    (fun y : Nat → RV => ∀ q, q < i.ln → y q = lkF i.lt i.lr q) (fun y => owOut i.nrm i.ln y) (0, fun _ => .nil) ⟨Nat.zero_le _, fun q hq => absurd hq (Nat.not_lt_zero q)⟩ ?_ ?_
  · intro x hx
    obtain ⟨n, f⟩ := x
    have h := hx.1
    have hf := hx.2
    exact endK (τ := tab) (sp := noSpec) mixed noSpec_ok (own_round i n f (owSt i.nrm) (owOut i.nrm) h hln hf) (by kernel_rfl)
  · intro f hf
    refine WpL.weak (weaker_row rfl hf) ?_
    refine cutK (τ := tab) (sp := noSpec) mixed noSpec_ok 0 .frz (fun _ : Unit => True) (fun _ => owEnd i.nrm i.ln (lkF i.lt i.lr))
      keyE (by kernel_rfl) fun _ _ => ?_
    exact endK (τ := tab) (sp := noSpec) mixed noSpec_ok (fin_of (y := .d i.nrm.rv) (x := .d i.nrm.rv) rfl) (by kernel_rfl)
def bkSt (i : Ins) (n : Nat) (f : Nat → RV) (k : Int) : St := ⟨62, [(1, .d (.ref i.cells)), (2, .loc 2 0), (3, .loc 3 0), (4, iv k)], [], [(3, 45, i.sc (.own 0)), (2, 45, noIns.sc (.d .nil))], [(0, ⟨121, 2, n, f⟩)], 1⟩
def bkOut (i : Ins) (n : Nat) (f : Nat → RV) : St := ⟨62, [(2, .loc 2 0), (3, .loc 3 0)], [], [(3, 45, i.sc (.own 0)), (2, 45, noIns.sc (.d .nil))], [(0, ⟨121, 2, n, f⟩)], 1⟩
def bkEnd (i : Ins) (n : Nat) (f : Nat → RV) : St := ⟨62, [(2, .loc 2 0), (3, .loc 3 0)], [], [(3, 45, i.sc (.d (.row 2 n f))), (2, 45, noIns.sc (.d .nil))], [], 1⟩
set_option maxRecDepth 100000 in
set_option maxHeartbeats 1000000 in
theorem back_nrm (i : Ins) (hln : i.ln ≤ 1000) : Pure Tryd.prog 51 [i.nrm.rv] (.d i.nrm.rv) := by
  refine pure_list (τ := tab) Tryd.f51 Tryd.func51 (by kernel_rfl) rfl (by kernel_rfl) ?_
  have key0 : ∃ _ : Unit, True ∧ some (bkSt i.nrm 0 (fun _ => .nil) 0) = some (bkSt i.nrm 0 (fun _ => .nil) 0) := ⟨(), trivial, rfl⟩
  have keyE : ∃ _ : Unit, True ∧ some (bkEnd i.nrm i.ln (lkF i.lt i.lr)) = some (bkEnd i.nrm i.ln (lkF i.lt i.lr)) := ⟨(), trivial, rfl⟩
  refine cutK (τ := tab) (sp := noSpec) mixed noSpec_ok 3 (.both (.frzB [1]) (.re [1, 2, 3, 4] ⟨[], [], [(3, [(15, 0)])], [(0, ⟨121, 2, 0, fun _ => .nil⟩)]⟩ 1)) (fun _ : Unit => True) (fun _ => bkSt i.nrm 0 (fun _ => .nil) 0)
    key0 (by kernel_rfl) fun _ _ => ?_
  refine wpL_loop (by kernel_rfl) (fun x : Nat × (Nat → RV) => bkSt i.nrm x.1 x.2 x.1) (fun x => i.ln - x.1) (fun x => x.1 ≤ i.ln ∧ ∀ q, q < x.1 → x.2 q = lkF i.lt i.lr q) (.ren [1, 2, 3, 4] 1 0 1) (.ren [2, 3] 0 0 1)
    (fun y : Nat → RV => ∀ q, q < i.ln → y q = lkF i.lt i.lr q) (fun y => bkOut i.nrm i.ln y) (0, fun _ => .nil) ⟨Nat.zero_le _, fun q hq => absurd hq (Nat.not_lt_zero q)⟩ ?_ ?_
  · intro x hx
    obtain ⟨n, f⟩ := x
    have h := hx.1
    have hf := hx.2
    exact endK (τ := tab) (sp := noSpec) mixed noSpec_ok (own_round i n f (bkSt i.nrm) (bkOut i.nrm) h hln hf) (by kernel_rfl)
  · intro f hf
    refine WpL.weak (weaker_row rfl hf) ?_
    refine cutK (τ := tab) (sp := noSpec) mixed noSpec_ok 0 .frz (fun _ : Unit => True) (fun _ => bkEnd i.nrm i.ln (lkF i.lt i.lr))
      keyE (by kernel_rfl) fun _ _ => ?_
    exact endK (τ := tab) (sp := noSpec) mixed noSpec_ok (fin_of (y := .d i.nrm.rv) (x := .d i.nrm.rv) rfl) (by kernel_rfl)
def eInk (f : Ins → SV) : Entry := fun args => match args with
  | [x] => ob (insOf x) fun i => some ([i.wf, i.ln ≤ 1000], f i)
  | _ => none
theorem eInk_ok {g : FuncId} {f : Ins → SV} (hg : Sim.Enters Tryd.prog g) (h : ∀ i : Ins, i.ln ≤ 1000 → Pure Tryd.prog g [i.nrm.rv] (f i)) : EntryOk Tryd.prog g (eInk f) := by
  refine ⟨hg, fun args ps x hx hp => ?_⟩
  unfold eInk at hx
  split at hx
  · obtain ⟨i, e, hx⟩ := ob_eq hx
    simp only [Option.some.injEq, Prod.mk.injEq] at hx
    obtain ⟨rfl, rfl⟩ := hx
    exact pure_args (h i (hp _ (by simp))) fun N w vs hc => cells_one (fun v hv => nrm_den (hp _ (by simp)) (insOf_den e hv)) hc
  · cases hx
theorem own_ok : EntryOk Tryd.prog 33 (eInk fun i => .d i.nrm.rv) := eInk_ok (enters Tryd.f33 Tryd.func33 (by kernel_rfl)) own_nrm
theorem back_ok : EntryOk Tryd.prog 51 (eInk fun i => .d i.nrm.rv) := eInk_ok (enters Tryd.f51 Tryd.func51 (by kernel_rfl)) back_nrm
end Go.Proofs.YtekifbnnkcgipaaDoor
