/- Contracts of giro/matching: distance, comparisons, Compare. Conditions: links that are links. -/
import Derived.Test.YtekifbnnkcgipaaDoorMsD
namespace Go.Proofs.YtekifbnnkcgipaaDoor
open Go.Sim

def distI (a b : Int) : Int := max (IntKind.i64.wrap (a - b)) (IntKind.i64.wrap (b - a))
def e2I (f : Int → Int → SV) : Entry := fun args => match args with
  | [.val (.int .i64 a), .val (.int .i64 b)] => some ([], f a b)
  | _ => none
theorem e2I_ok {g : FuncId} {f : Int → Int → SV} (hg : Sim.Enters Tryd.prog g) (h : ∀ a b : Int, Pure Tryd.prog g [vI a, vI b] (f a b)) : EntryOk Tryd.prog g (e2I f) := by
  refine ⟨hg, fun args ps x hx hp => ?_⟩
  unfold e2I at hx
  split at hx
  · simp only [Option.some.injEq, Prod.mk.injEq] at hx
    obtain ⟨rfl, rfl⟩ := hx
    exact h _ _
  · cases hx
theorem dist_pure (a b : Int) : Pure Tryd.prog 71 [vI a, vI b] (iv (distI a b)) :=
  pure_vc (τ := tab) mixed noSpec_ok Tryd.f71 Tryd.func71 (by kernel_rfl) rfl (by kernel_rfl) (fin_of (y := iv (distI a b)) rfl) (by kernel_rfl)
theorem rdist_pure (a b : Int) : Pure Tryd.prog 70 [vI a, vI b] (iv (distI a b)) :=
  pure_vc (τ := tab) mixed noSpec_ok Tryd.f70 Tryd.func70 (by kernel_rfl) rfl (by kernel_rfl) (fin_of (y := iv (distI a b)) rfl) (by kernel_rfl)
theorem dist_ok : EntryOk Tryd.prog 71 (e2I fun a b => iv (distI a b)) := e2I_ok (enters Tryd.f71 Tryd.func71 (by kernel_rfl)) dist_pure
theorem rdist_ok : EntryOk Tryd.prog 70 (e2I fun a b => iv (distI a b)) := e2I_ok (enters Tryd.f70 Tryd.func70 (by kernel_rfl)) rdist_pure

/-- Does the field k match? -/
def cmpF (i j : Ins) (t : Int) : Nat → Bool
  | 0 => i.kind == j.kind
  | 1 => i.side != j.side
  | 2 => (i.cp.toList == j.sender.toList) && (j.cp.toList == i.sender.toList)
  | 3 => i.asset.toList == j.asset.toList
  | 4 => i.qty == j.qty
  | 5 => decide (distI i.amt j.amt ≤ t)
  | 6 => i.tday == j.tday
  | _ => i.sday == j.sday
theorem cmp1_pure (i j : Ins) : Pure Tryd.prog 101 [i.rv, j.rv] (bv (cmpF i j 0 0)) :=
  pure_vc (τ := tab) mixed noSpec_ok Tryd.f101 Tryd.func101 (by kernel_rfl) rfl (by kernel_rfl) (fin_of (y := bv (cmpF i j 0 0)) rfl) (by kernel_rfl)
theorem cmp2_pure (i j : Ins) : Pure Tryd.prog 102 [i.rv, j.rv] (bv (cmpF i j 0 1)) :=
  pure_vc (τ := tab) mixed noSpec_ok Tryd.f102 Tryd.func102 (by kernel_rfl) rfl (by kernel_rfl) (fin_of (y := bv (cmpF i j 0 1)) rfl) (by kernel_rfl)
theorem cmp3_pure (i j : Ins) : Pure Tryd.prog 103 [i.rv, j.rv] (bv (cmpF i j 0 2)) :=
  pure_vc (τ := tab) mixed noSpec_ok Tryd.f103 Tryd.func103 (by kernel_rfl) rfl (by kernel_rfl) (fin_of (y := bv (cmpF i j 0 2)) rfl) (by kernel_rfl)
theorem cmp4_pure (i j : Ins) : Pure Tryd.prog 104 [i.rv, j.rv] (bv (cmpF i j 0 3)) :=
  pure_vc (τ := tab) mixed noSpec_ok Tryd.f104 Tryd.func104 (by kernel_rfl) rfl (by kernel_rfl) (fin_of (y := bv (cmpF i j 0 3)) rfl) (by kernel_rfl)
theorem cmp5_pure (i j : Ins) : Pure Tryd.prog 105 [i.rv, j.rv] (bv (cmpF i j 0 4)) :=
  pure_vc (τ := tab) mixed noSpec_ok Tryd.f105 Tryd.func105 (by kernel_rfl) rfl (by kernel_rfl) (fin_of (y := bv (cmpF i j 0 4)) rfl) (by kernel_rfl)
def tabDi : List (Nat × Entry) := [(71, e2I fun a b => iv (distI a b)), (70, e2I fun a b => iv (distI a b))]
theorem tabDi_ok : SpecOk Tryd.prog (table tabDi) := table_ok ⟨dist_ok, rdist_ok, trivial⟩
theorem cmp6_pure (i j : Ins) (t : Int) : Pure Tryd.prog 106 [i.rv, j.rv, .ref [vI t]] (bv (cmpF i j t 5)) :=
  pure_vc (τ := tab) mixed tabDi_ok Tryd.f106 Tryd.func106 (by kernel_rfl) rfl (by kernel_rfl) (fin_of (y := bv (cmpF i j t 5)) rfl) (by kernel_rfl)
theorem cmp7_pure (i j : Ins) : Pure Tryd.prog 107 [i.rv, j.rv] (bv (cmpF i j 0 6)) :=
  pure_vc (τ := tab) mixed noSpec_ok Tryd.f107 Tryd.func107 (by kernel_rfl) rfl (by kernel_rfl) (fin_of (y := bv (cmpF i j 0 6)) rfl) (by kernel_rfl)
theorem cmp8_pure (i j : Ins) : Pure Tryd.prog 108 [i.rv, j.rv] (bv (cmpF i j 0 7)) :=
  pure_vc (τ := tab) mixed noSpec_ok Tryd.f108 Tryd.func108 (by kernel_rfl) rfl (by kernel_rfl) (fin_of (y := bv (cmpF i j 0 7)) rfl) (by kernel_rfl)
theorem cells_two2 {N : Nat → Prop} {w : World} {x y x' y' : RV} (h : ∀ v, RDen N w x v → RDen N w x' v) (h2 : ∀ v, RDen N w y v → RDen N w y' v) {l : List RV} {vs : List Value} (hc : Cells N w (x :: y :: l) vs) : Cells N w (x' :: y' :: l) vs := by
  refine ⟨by rw [hc.1]; rfl, fun k z v hz hv => ?_⟩
  match k with
  | 0 => simp at hz; subst hz; exact h v (hc.2 0 x v rfl hv)
  | 1 => simp at hz; subst hz; exact h2 v (hc.2 1 y v rfl hv)
  | k + 2 => exact hc.2 (k + 2) z v hz hv
def eI2 (f : Ins → Ins → SV) : Entry := fun args => match args with
  | [x, y] => ob (insOf x) fun i => ob (insOf y) fun j => some ([], f i j)
  | _ => none
theorem eI2_ok {g : FuncId} {f : Ins → Ins → SV} (hg : Sim.Enters Tryd.prog g) (h : ∀ i j : Ins, Pure Tryd.prog g [i.rv, j.rv] (f i j)) : EntryOk Tryd.prog g (eI2 f) := by
  refine ⟨hg, fun args ps x hx hp => ?_⟩
  unfold eI2 at hx
  split at hx
  · obtain ⟨i, e, hx⟩ := ob_eq hx
    obtain ⟨j, e2, hx⟩ := ob_eq hx
    simp only [Option.some.injEq, Prod.mk.injEq] at hx
    obtain ⟨rfl, rfl⟩ := hx
    exact pure_args (h i j) fun N w vs hc => cells_two2 (fun v hv => insOf_den e hv) (fun v hv => insOf_den e2 hv) hc
  · cases hx
def eI2T (f : Ins → Ins → Int → SV) : Entry := fun args => match args with
  | [x, y, .ref [.val (.int .i64 t)]] => ob (insOf x) fun i => ob (insOf y) fun j => some ([], f i j t)
  | _ => none
theorem eI2T_ok {g : FuncId} {f : Ins → Ins → Int → SV} (hg : Sim.Enters Tryd.prog g) (h : ∀ (i j : Ins) (t : Int), Pure Tryd.prog g [i.rv, j.rv, .ref [vI t]] (f i j t)) : EntryOk Tryd.prog g (eI2T f) := by
  refine ⟨hg, fun args ps x hx hp => ?_⟩
  unfold eI2T at hx
  split at hx
  · obtain ⟨i, e, hx⟩ := ob_eq hx
    obtain ⟨j, e2, hx⟩ := ob_eq hx
    simp only [Option.some.injEq, Prod.mk.injEq] at hx
    obtain ⟨rfl, rfl⟩ := hx
    exact pure_args (h i j _) fun N w vs hc => cells_two2 (fun v hv => insOf_den e hv) (fun v hv => insOf_den e2 hv) hc
  · cases hx

/-- The comparisons, as data. -/
def cmpsRV (t : Int) : RV := .agg [fnRV 101, fnRV 102, fnRV 103, fnRV 104, fnRV 105, .clo 106 [.ref [vI t]], fnRV 107, fnRV 108]
def cmpsSt (t : Int) : St := ⟨5, [(1, .d (.ref [vI t])), (2, .loc 2 0)], [], [(2, 118, List.replicate 8 (.d (.val .nilFunc)))], [], 0⟩
theorem cmps_pure (t : Int) : Pure Tryd.prog 68 [vI t] (.d (cmpsRV t)) := by
  refine pure_list (τ := tab) Tryd.f68 Tryd.func68 (by kernel_rfl) rfl (by kernel_rfl) ?_
  refine wpL_cut (τ := tab) (sp := noSpec) mixed noSpec_ok 1 (.both (.frzB [1]) (.keep [1, 2])) (fun _ : Unit => True) (fun _ => cmpsSt t) (Eq.mp (by kernel_rfl) (show ∃ _ : Unit, True ∧ some (cmpsSt t) = some (cmpsSt t) from ⟨(), trivial, rfl⟩)) fun _ _ => ?_
  exact vcL_end (τ := tab) (sp := noSpec) mixed noSpec_ok _ _ _ (Eq.mp (by kernel_rfl) (fin_of (y := .d (cmpsRV t)) rfl))
def eCmps : Entry := eI1 fun t => .d (cmpsRV t)
theorem cmps_ok : EntryOk Tryd.prog 68 eCmps := eI1_ok (enters Tryd.f68 Tryd.func68 (by kernel_rfl)) cmps_pure
end Go.Proofs.YtekifbnnkcgipaaDoor
