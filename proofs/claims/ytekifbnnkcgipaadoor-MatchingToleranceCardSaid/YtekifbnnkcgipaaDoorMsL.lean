/- The walks of MatchingCompare and MatchingTrades: they return true. Conditions: links that are links. -/
import Derived.Test.YtekifbnnkcgipaaDoorMsK
namespace Go.Proofs.YtekifbnnkcgipaaDoor
open Go.Sim

def fewIJ (i j : Ins) : Bool := noneB (fewP fun k => insD ([i.rv, j.rv].getD k default)) 2
theorem few_ln {i j : Ins} (h : fewIJ i j = true) : i.ln ≤ 12 ∧ j.ln ≤ 12 := by
  have h0 : ¬ ((i.ln : Int) > 12) := of_decide_eq_false (noneB_iff.1 h 0 (by decide))
  have h1 : ¬ ((j.ln : Int) > 12) := of_decide_eq_false (noneB_iff.1 h 1 (by decide))
  omega
theorem okIns_two (i j : Ins) : okIns 2 (fun k => [i.rv, j.rv].getD k default) := by
  intro k hk
  match k, hk with
  | 0, _ => rfl
  | 1, _ => rfl
theorem nrm_wf (i : Ins) : i.nrm.wf := fun _ _ => rfl
theorem cmpE_nrm (i j : Ins) (t : Int) : cmpE i.nrm j.nrm t = cmpE i j t := rfl
theorem cmpL_nrm (i j : Ins) (t : Int) : cmpL i.nrm j.nrm t = cmpL i j t := rfl
theorem matE_nrm (i j : Ins) (t : Int) : matE i.nrm j.nrm t = matE i j t := rfl
theorem matT_nrm (i j : Ins) (t : Int) : matT i.nrm j.nrm t = matT i j t := rfl
def tabLw : List (Nat × Entry) := [(30, eKnown), (31, eFew), (33, eInk fun i => .d i.nrm.rv), (32, eI2t cmpR), (34, eI2t cmpR), (35, eSame),
  (36, eI2t matR), (37, eI2t matR), (38, eT1 (fun _ => []) fun t => .d t.rv)]
theorem tabLw_ok : SpecOk Tryd.prog (table tabLw) := table_ok ⟨known_ok, few_ok, own_ok, compare_ok, rcompare_ok, same_ok, match_ok, rmatch_ok, to_ok, trivial⟩
theorem one_len {i j : Ins} {t : Int} : (cmpL i j t).length ≤ 1000000 := by
  unfold cmpL
  cases cmpE i j t != 0 with
  | true => simp
  | false => have := failL_len (cmpF i j t) 8; simp only [cond_false]; omega
set_option maxRecDepth 100000 in
theorem compare_law (i j : Ins) (t : Int) (hi : i.wf) (hj : j.wf) : Pure Tryd.prog 11 [i.rv, j.rv, vI t] (bv true) := by
  have key : ((!true) = false → 2 ≤ 1000000) ∧ ((!true) = false → okIns 2 (fun k => [i.rv, j.rv].getD k default)) ∧ (((!true) || !fewIJ i j) = true → Fin (bv true) (bv true)) ∧ (((!true) || !fewIJ i j) = false →
      i.wf ∧ i.ln ≤ 1000 ∧ j.wf ∧ j.ln ≤ 1000 ∧ i.nrm.wf ∧ j.nrm.wf ∧ i.wf ∧ j.wf ∧
      ((cmpE i.nrm j.nrm t == cmpE i j t) = true → (cmpL i.nrm j.nrm t).length ≤ 1000000) ∧ ((cmpE i.nrm j.nrm t == cmpE i j t) = true → okNum (cmpL i.nrm j.nrm t).length (lsF (cmpL i.nrm j.nrm t))) ∧
      ((cmpE i.nrm j.nrm t == cmpE i j t) = true → okNum (cmpL i j t).length (lsF (cmpL i j t))) ∧
      Fin (bv ((cmpE i.nrm j.nrm t == cmpE i j t) && sameX (cmpL i.nrm j.nrm t).length (cmpL i j t).length (fun k => numD (lsF (cmpL i.nrm j.nrm t) k)) fun k => numD (lsF (cmpL i j t) k))) (bv true)) := by
    refine ⟨fun _ => by decide, fun _ => okIns_two i j, fun _ => fin_of rfl, fun h => ?_⟩
    obtain ⟨h1, h2⟩ := few_ln (i := i) (j := j) (by simpa using h)
    refine ⟨hi, by omega, hj, by omega, nrm_wf i, nrm_wf j, hi, hj, fun _ => one_len, fun _ => okNum_ls _ _, fun _ => okNum_ls _ _, fin_of ?_⟩
    rw [cmpE_nrm, cmpL_nrm, same_self, beq_self_eq_true]; rfl
  exact pure_vc (τ := tab) mixed tabLw_ok Tryd.f11 Tryd.func11 (by kernel_rfl) rfl (by kernel_rfl) key (by kernel_rfl)
/-- Two trades, field by field. -/
def sameT (a b : Trd) : Bool := (a.kind == b.kind) && ((a.del.toList == b.del.toList) && ((a.rcv.toList == b.rcv.toList) && ((a.asset.toList == b.asset.toList) && ((a.qty == b.qty) && ((a.amt == b.amt) && ((a.tday == b.tday) && ((a.sday == b.sday) && ((a.prio == b.prio) && ((a.part == b.part) && ((a.lot == b.lot) && (((a.r0.toList == b.r0.toList) && ((a.r1.toList == b.r1.toList) && true)) && true)))))))))))
theorem sameT_self (a : Trd) : sameT a a = true := by simp [sameT]
set_option maxRecDepth 100000 in
theorem trades_law (i j : Ins) (t : Int) (hi : i.wf) (hj : j.wf) : Pure Tryd.prog 12 [i.rv, j.rv, vI t] (bv true) := by
  have key : ((!true) = false → 2 ≤ 1000000) ∧ ((!true) = false → okIns 2 (fun k => [i.rv, j.rv].getD k default)) ∧ (((!true) || !fewIJ i j) = true → Fin (bv true) (bv true)) ∧ (((!true) || !fewIJ i j) = false →
      i.wf ∧ i.ln ≤ 1000 ∧ j.wf ∧ j.ln ≤ 1000 ∧ i.nrm.wf ∧ j.nrm.wf ∧ i.wf ∧ j.wf ∧
      Fin (bv ((matE i.nrm j.nrm t == matE i j t) && sameT (matT i.nrm j.nrm t) (matT i j t))) (bv true)) := by
    refine ⟨fun _ => by decide, fun _ => okIns_two i j, fun _ => fin_of rfl, fun h => ?_⟩
    obtain ⟨h1, h2⟩ := few_ln (i := i) (j := j) (by simpa using h)
    refine ⟨hi, by omega, hj, by omega, nrm_wf i, nrm_wf j, hi, hj, fin_of ?_⟩
    rw [matE_nrm, matT_nrm, sameT_self, beq_self_eq_true]; rfl
  exact pure_vc (τ := tab) mixed tabLw_ok Tryd.f12 Tryd.func12 (by kernel_rfl) rfl (by kernel_rfl) key (by kernel_rfl)
end Go.Proofs.YtekifbnnkcgipaaDoor
