/- Contracts of giroref23's Compare and Match: they answer as giro/matching's. Conditions: links that are links. -/
import Derived.Test.YtekifbnnkcgipaaDoorMsG
namespace Go.Proofs.YtekifbnnkcgipaaDoor
open Go.Sim

def tabRq : List (Nat × Entry) := [(69, eIn1 fun i => iv (refCheck i)), (70, e2I fun a b => iv (distI a b))]
theorem tabRq_ok : SpecOk Tryd.prog (table tabRq) := table_ok ⟨rcheck_ok, rdist_ok, trivial⟩
def rqSt (i j : Ins) (t : Int) (n : Nat) (f : Nat → RV) : St := ⟨119, [(10, .own 0), (3, .d (.ref i.cells)), (4, .d (.ref j.cells)), (2, iv t)], [], [], [(0, ⟨3, 1, n, f⟩)], 1⟩
def rqRe : Shr := .alt (.ren [10, 3, 4, 2] 1 0 1) (.ren [10, 3, 4, 2] 0 0 1)
theorem rq_round (i j : Ins) (t : Int) (n : Nat) (f : Nat → RV) (k : Nat) (c : Bool) (hc : c = !cmpF i j t k) (hk : k < 8) (hn : n = (failL (cmpF i j t) k).length) (hf : ∀ q, q < n → f q = lsF (failL (cmpF i j t) k) q) :
    (c = true → (n + 1) * 8 ≤ 140737488351232 ∧ ∃ y : Nat × (Nat → RV), (y.1 = (failL (cmpF i j t) (k + 1)).length ∧ ∀ q, q < y.1 → y.2 q = lsF (failL (cmpF i j t) (k + 1)) q) ∧ some (rqSt i j t (n + 1) (joinF n f fun q => [vI k].getD q default)) = some (rqSt i j t y.1 y.2)) ∧
    (c = false → ∃ y : Nat × (Nat → RV), (y.1 = (failL (cmpF i j t) (k + 1)).length ∧ ∀ q, q < y.1 → y.2 q = lsF (failL (cmpF i j t) (k + 1)) q) ∧ some (rqSt i j t n f) = some (rqSt i j t y.1 y.2)) := by
  have hl := failL_len (cmpF i j t) k
  refine ⟨fun h => ⟨by omega, (n + 1, joinF n f fun q => [vI k].getD q default), ⟨?_, fun q hq => ?_⟩, rfl⟩, fun h => ⟨(n, f), ⟨?_, fun q hq => ?_⟩, rfl⟩⟩
  · show n + 1 = (failL (cmpF i j t) (k + 1)).length
    have hc : cmpF i j t k = false := by simpa [hc] using h
    simp [failL, hc, hn]
  · have hc : cmpF i j t k = false := by simpa [hc] using h
    show joinF n f (fun q => [vI (k : Int)].getD q default) q = lsF (failL (cmpF i j t) (k + 1)) q
    simp only [failL, hc, cond_false]
    exact lsF_push _ n f _ k hn hf rfl q hq
  · show n = (failL (cmpF i j t) (k + 1)).length
    have hc : cmpF i j t k = true := by simpa [hc] using h
    simp [failL, hc, hn]
  · have hc : cmpF i j t k = true := by simpa [hc] using h
    show f q = lsF (failL (cmpF i j t) (k + 1)) q
    simp only [failL, hc, cond_true]
    exact hf q hq
theorem kinds_eq (i j : Ins) : (((decide (i.kind < 1) || decide (i.kind > 2)) || decide (j.kind < 1)) || decide (j.kind > 2)) = (!i.isSec || !j.isSec) := by
  unfold Ins.isSec
  rw [Bool.eq_iff_iff]; simp; omega
set_option maxRecDepth 100000 in
set_option maxHeartbeats 1000000 in
theorem rcmpX_wf (i j : Ins) (t : Int) (hi : i.wf) (hj : j.wf) : Pure Tryd.prog 34 [i.rv, j.rv, vI t] (cmX i j t) := by
  refine pure_list (τ := tab) Tryd.f34 Tryd.func34 (by kernel_rfl) (by unfold cmX; cases cmpE i j t != 0 <;> rfl) (by kernel_rfl) ?_
  have key1 : ((decide (t < 0) || decide (t > 1000000000000000)) = true → Fin (.tup [.d .nil, iv 2]) (cmX i j t)) ∧ ((decide (t < 0) || decide (t > 1000000000000000)) = false → i.wf ∧
      ((refCheck i != 0) = true → Fin (.tup [.d .nil, iv (refCheck i)]) (cmX i j t)) ∧ ((refCheck i != 0) = false → j.wf ∧
      ((refCheck j != 0) = true → Fin (.tup [.d .nil, iv (refCheck j)]) (cmX i j t)) ∧ ((refCheck j != 0) = false →
      ((((decide (i.kind < 1) || decide (i.kind > 2)) || decide (j.kind < 1)) || decide (j.kind > 2)) = true → Fin (.tup [.d .nil, iv 11]) (cmX i j t)) ∧ ((((decide (i.kind < 1) || decide (i.kind > 2)) || decide (j.kind < 1)) || decide (j.kind > 2)) = false →
        ∃ _ : Unit, cmpE i j t = 0 ∧ some (rqSt i j t 0 (lsF [])) = some (rqSt i j t 0 (lsF [])))))) := by
    rw [kinds_eq, ← check_ref, ← check_ref]
    refine ⟨fun h1 => fin_of (cmX_err (by unfold cmpE; rw [h1]; rfl) (by decide)), fun h1 => ⟨hi, fun h2 => fin_of (cmX_err ?_ ?_), fun h2 => ⟨hj, fun h3 => fin_of (cmX_err ?_ ?_), fun h3 => ⟨fun h4 => fin_of (cmX_err ?_ (by decide)), fun h4 => ⟨(), ?_, rfl⟩⟩⟩⟩⟩
    · unfold cmpE; rw [h1, h2]; rfl
    · exact bne_iff_ne.1 h2
    · unfold cmpE; rw [h1, h2, h3]; rfl
    · exact bne_iff_ne.1 h3
    · unfold cmpE; rw [h1, h2, h3, h4]; rfl
    · unfold cmpE; rw [h1, h2, h3, h4]; rfl
  refine wpL_cut (τ := tab) (sp := table tabRq) mixed tabRq_ok 12 (.both (.frzB [3, 4]) (.nilO [3, 4, 2] 10 3 1 (lsF []))) (fun _ : Unit => cmpE i j t = 0) (fun _ => rqSt i j t 0 (lsF [])) (Eq.mp (by kernel_rfl) key1) fun _ h0 => ?_
  clear key1
  obtain ⟨n, hn0⟩ : ∃ n, n = 0 := ⟨0, rfl⟩
  obtain ⟨f, hf0⟩ : ∃ f, f = lsF [] := ⟨_, rfl⟩
  have hn : n = (failL (cmpF i j t) 0).length := hn0
  have hf : ∀ q, q < n → f q = lsF (failL (cmpF i j t) 0) q := fun q hq => by rw [hf0]; rfl
  rw [← hn0, ← hf0]
  clear hn0 hf0
  refine wpL_cut (τ := tab) (sp := table tabRq) mixed tabRq_ok 2 rqRe (fun y : Nat × (Nat → RV) => y.1 = (failL (cmpF i j t) 1).length ∧ ∀ q, q < y.1 → y.2 q = lsF (failL (cmpF i j t) 1) q) (fun y => rqSt i j t y.1 y.2) (Eq.mp (by kernel_rfl) (rq_round i j t n f 0 (i.kind != j.kind) (by simp [cmpF, bne]) (by decide) hn hf)) fun y hy => ?_
  clear hn hf
  obtain ⟨n, f⟩ := y
  obtain ⟨hn, hf⟩ := hy
  refine wpL_cut (τ := tab) (sp := table tabRq) mixed tabRq_ok 2 rqRe (fun y : Nat × (Nat → RV) => y.1 = (failL (cmpF i j t) 2).length ∧ ∀ q, q < y.1 → y.2 q = lsF (failL (cmpF i j t) 2) q) (fun y => rqSt i j t y.1 y.2) (Eq.mp (by kernel_rfl) (rq_round i j t n f 1 (i.side == j.side) (by simp [cmpF, bne]) (by decide) hn hf)) fun y hy => ?_
  clear hn hf
  obtain ⟨n, f⟩ := y
  obtain ⟨hn, hf⟩ := hy
  refine wpL_cut (τ := tab) (sp := table tabRq) mixed tabRq_ok 2 rqRe (fun y : Nat × (Nat → RV) => y.1 = (failL (cmpF i j t) 3).length ∧ ∀ q, q < y.1 → y.2 q = lsF (failL (cmpF i j t) 3) q) (fun y => rqSt i j t y.1 y.2) (Eq.mp (by kernel_rfl) (rq_round i j t n f 2 (!(i.cp.toList == j.sender.toList) || !(j.cp.toList == i.sender.toList)) (by simp [cmpF, bne]) (by decide) hn hf)) fun y hy => ?_
  clear hn hf
  obtain ⟨n, f⟩ := y
  obtain ⟨hn, hf⟩ := hy
  refine wpL_cut (τ := tab) (sp := table tabRq) mixed tabRq_ok 2 rqRe (fun y : Nat × (Nat → RV) => y.1 = (failL (cmpF i j t) 4).length ∧ ∀ q, q < y.1 → y.2 q = lsF (failL (cmpF i j t) 4) q) (fun y => rqSt i j t y.1 y.2) (Eq.mp (by kernel_rfl) (rq_round i j t n f 3 (!(i.asset.toList == j.asset.toList)) (by simp [cmpF, bne]) (by decide) hn hf)) fun y hy => ?_
  clear hn hf
  obtain ⟨n, f⟩ := y
  obtain ⟨hn, hf⟩ := hy
  refine wpL_cut (τ := tab) (sp := table tabRq) mixed tabRq_ok 2 rqRe (fun y : Nat × (Nat → RV) => y.1 = (failL (cmpF i j t) 5).length ∧ ∀ q, q < y.1 → y.2 q = lsF (failL (cmpF i j t) 5) q) (fun y => rqSt i j t y.1 y.2) (Eq.mp (by kernel_rfl) (rq_round i j t n f 4 (i.qty != j.qty) (by simp [cmpF, bne]) (by decide) hn hf)) fun y hy => ?_
  clear hn hf
  obtain ⟨n, f⟩ := y
  obtain ⟨hn, hf⟩ := hy
  refine wpL_cut (τ := tab) (sp := table tabRq) mixed tabRq_ok 2 rqRe (fun y : Nat × (Nat → RV) => y.1 = (failL (cmpF i j t) 6).length ∧ ∀ q, q < y.1 → y.2 q = lsF (failL (cmpF i j t) 6) q) (fun y => rqSt i j t y.1 y.2) (Eq.mp (by kernel_rfl) (rq_round i j t n f 5 (decide (distI i.amt j.amt > t)) (by rw [Bool.eq_iff_iff]; simp [cmpF]) (by decide) hn hf)) fun y hy => ?_
  clear hn hf
  obtain ⟨n, f⟩ := y
  obtain ⟨hn, hf⟩ := hy
  refine wpL_cut (τ := tab) (sp := table tabRq) mixed tabRq_ok 2 rqRe (fun y : Nat × (Nat → RV) => y.1 = (failL (cmpF i j t) 7).length ∧ ∀ q, q < y.1 → y.2 q = lsF (failL (cmpF i j t) 7) q) (fun y => rqSt i j t y.1 y.2) (Eq.mp (by kernel_rfl) (rq_round i j t n f 6 (i.tday != j.tday) (by simp [cmpF, bne]) (by decide) hn hf)) fun y hy => ?_
  clear hn hf
  obtain ⟨n, f⟩ := y
  obtain ⟨hn, hf⟩ := hy
  refine wpL_cut (τ := tab) (sp := table tabRq) mixed tabRq_ok 2 rqRe (fun y : Nat × (Nat → RV) => y.1 = (failL (cmpF i j t) 8).length ∧ ∀ q, q < y.1 → y.2 q = lsF (failL (cmpF i j t) 8) q) (fun y => rqSt i j t y.1 y.2) (Eq.mp (by kernel_rfl) (rq_round i j t n f 7 (i.sday != j.sday) (by simp [cmpF, bne]) (by decide) hn hf)) fun y hy => ?_
  clear hn hf
  obtain ⟨n, f⟩ := y
  obtain ⟨hn, hf⟩ := hy
  refine WpL.weak (weaker_row hn hf) ?_
  exact vcL_end (τ := tab) (sp := table tabRq) mixed tabRq_ok _ _ _ (Eq.mp (by kernel_rfl) (fin_of (y := .tup [.d (lsRV (failL (cmpF i j t) 8)), iv 0]) (x := cmX i j t) (by unfold cmX; rw [h0]; rfl)))
theorem cmX_cmpR {i j : Ins} {t : Int} {g : FuncId} {args : List RV} (h : Pure Tryd.prog g args (cmX i j t)) : Pure Tryd.prog g args (cmpR i j t) := by
  refine pure_res h fun β N w v hv => ?_
  unfold cmX at hv
  unfold cmpR cmpL
  cases h : cmpE i j t != 0 with
  | true =>
    rw [h] at hv
    refine tup_head (fun u hu => ?_) hv
    cases hu with
    | d hu => cases hu; exact .d (.nil _ _)
  | false =>
    rw [h] at hv
    have e : cmpE i j t = 0 := bne_eq_false_iff_eq.1 h
    rw [e]; exact hv
theorem rcompare_ok : EntryOk Tryd.prog 34 (eI2t cmpR) := eI2t_ok (enters Tryd.f34 Tryd.func34 (by kernel_rfl)) fun i j t hi hj => cmX_cmpR (rcmpX_wf i j t hi hj)
def tabRm : List (Nat × Entry) := [(34, eI2t cmpR)]
theorem tabRm_ok : SpecOk Tryd.prog (table tabRm) := table_ok ⟨rcompare_ok, trivial⟩
set_option maxRecDepth 100000 in
theorem rmatch_wf (i j : Ins) (t : Int) (hi : i.wf) (hj : j.wf) : Pure Tryd.prog 37 [i.rv, j.rv, vI t] (matR i j t) := by
  have key := match_key i j t hi hj
  exact pure_vc (τ := tab) mixed tabRm_ok Tryd.f37 Tryd.func37 (by kernel_rfl) rfl (by kernel_rfl) key (by kernel_rfl)
theorem rmatch_ok : EntryOk Tryd.prog 37 (eI2t matR) := eI2t_ok (enters Tryd.f37 Tryd.func37 (by kernel_rfl)) rmatch_wf
end Go.Proofs.YtekifbnnkcgipaaDoor
