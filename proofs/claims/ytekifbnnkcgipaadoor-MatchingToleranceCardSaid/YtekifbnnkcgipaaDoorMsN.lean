/- The walks of MatchingSymmetry and MatchingTolerance, and the plain laws behind them. Conditions: links that are links. -/
import Derived.Test.YtekifbnnkcgipaaDoorMsL
namespace Go.Proofs.YtekifbnnkcgipaaDoor
open Go.Sim

theorem cmpE_zero {i j : Ins} {t : Int} : cmpE i j t = 0 ↔ (0 ≤ t ∧ t ≤ 1000000000000000) ∧ msgCheck i = 0 ∧ msgCheck j = 0 ∧ i.isSec = true ∧ j.isSec = true := by
  unfold cmpE
  cases h1 : (decide (t < 0) || decide (t > 1000000000000000)) with
  | true =>
    simp only [cond_true]
    refine ⟨fun h => absurd h (by decide), fun ⟨h, _⟩ => ?_⟩
    simp at h1
    omega
  | false =>
    have ht : 0 ≤ t ∧ t ≤ 1000000000000000 := by simp at h1; omega
    simp only [cond_false]
    cases h2 : msgCheck i != 0 with
    | true => simp only [cond_true]; exact ⟨fun h => absurd h (bne_iff_ne.1 h2), fun ⟨_, h, _⟩ => absurd h (bne_iff_ne.1 h2)⟩
    | false =>
      have h2' := bne_eq_false_iff_eq.1 h2
      simp only [cond_false]
      cases h3 : msgCheck j != 0 with
      | true => simp only [cond_true]; exact ⟨fun h => absurd h (bne_iff_ne.1 h3), fun ⟨_, _, h, _⟩ => absurd h (bne_iff_ne.1 h3)⟩
      | false =>
        have h3' := bne_eq_false_iff_eq.1 h3
        simp only [cond_false]
        cases i.isSec <;> cases j.isSec <;> simp [ht, h2', h3']
theorem distI_comm (a b : Int) : distI a b = distI b a := Int.max_comm _ _
theorem beq_flip {α : Type} [BEq α] [LawfulBEq α] (a b : α) : (a == b) = (b == a) := by
  rw [Bool.eq_iff_iff, beq_iff_eq, beq_iff_eq]; exact ⟨Eq.symm, Eq.symm⟩
theorem cmpF_comm (i j : Ins) (t : Int) : cmpF i j t = cmpF j i t := by
  funext k
  match k with
  | 0 => exact beq_flip _ _
  | 1 => exact congrArg (!·) (beq_flip i.side j.side)
  | 2 => exact Bool.and_comm _ _
  | 3 => exact beq_flip _ _
  | 4 => exact beq_flip _ _
  | 5 => show decide (distI i.amt j.amt ≤ t) = decide (distI j.amt i.amt ≤ t); rw [distI_comm]
  | 6 => exact beq_flip _ _
  | k + 7 => exact beq_flip i.sday j.sday
theorem eq_zero_of_iff {a b : Int} (h : a = 0 ↔ b = 0) : (a == 0) = (b == 0) := by
  rw [Bool.eq_iff_iff, beq_iff_eq, beq_iff_eq]; exact h
theorem cmpE_comm (i j : Ins) (t : Int) : cmpE i j t = 0 ↔ cmpE j i t = 0 := by
  rw [cmpE_zero, cmpE_zero]
  exact ⟨fun ⟨a, b, c, d, e⟩ => ⟨a, c, b, e, d⟩, fun ⟨a, b, c, d, e⟩ => ⟨a, c, b, e, d⟩⟩
theorem cmpL_comm (i j : Ins) (t : Int) : cmpL i j t = cmpL j i t := by
  unfold cmpL
  rw [cmpF_comm i j t, show (cmpE i j t != 0) = (cmpE j i t != 0) from congrArg (!·) (eq_zero_of_iff (cmpE_comm i j t))]
theorem matE_zero {i j : Ins} {t : Int} : matE i j t = 0 ↔ cmpE i j t = 0 ∧ cmpL i j t = [] := by
  unfold matE
  cases h : cmpE i j t != 0 with
  | true => simp only [cond_true]; exact ⟨fun e => absurd e (bne_iff_ne.1 h), fun e => absurd e.1 (bne_iff_ne.1 h)⟩
  | false =>
    have h' := bne_eq_false_iff_eq.1 h
    simp only [cond_false]
    cases hl : cmpL i j t with
    | nil => simp [h']
    | cons a l => simp <;> omega
theorem matE_comm (i j : Ins) (t : Int) : matE i j t = 0 ↔ matE j i t = 0 := by
  rw [matE_zero, matE_zero, cmpE_comm, cmpL_comm]
theorem failL_nil {p : Nat → Bool} : ∀ {n : Nat}, failL p n = [] ↔ ∀ k, k < n → p k = true
  | 0 => ⟨fun _ k hk => absurd hk (Nat.not_lt_zero k), fun _ => rfl⟩
  | n + 1 => by
    have ih := failL_nil (p := p) (n := n)
    simp only [failL]
    cases hp : p n with
    | true =>
      simp only [cond_true]
      rw [ih]
      refine ⟨fun h k hk => ?_, fun h k hk => h k (by omega)⟩
      rcases Nat.lt_or_ge k n with hlt | hge
      · exact h k hlt
      · rw [show k = n by omega]; exact hp
    | false =>
      simp only [cond_false]
      refine ⟨fun h => by simp at h, fun h => ?_⟩
      have := h n (by omega)
      rw [hp] at this; cases this
theorem matE_fields {i j : Ins} {t : Int} : matE i j t = 0 ↔ cmpE i j t = 0 ∧ ∀ k, k < 8 → cmpF i j t k = true := by
  rw [matE_zero]
  refine ⟨fun ⟨h1, h2⟩ => ⟨h1, ?_⟩, fun ⟨h1, h2⟩ => ⟨h1, ?_⟩⟩
  · unfold cmpL at h2
    rw [h1] at h2
    exact failL_nil.1 h2
  · unfold cmpL
    rw [h1]
    exact failL_nil.2 h2
theorem check_side {i : Ins} (h : msgCheck i = 0) : i.side = 0 ∨ i.side = 1 := by
  have h1 : firstR (rules1 i) = 0 := by
    unfold msgCheck at h
    cases hb : firstR (rules1 i) != 0 with
    | true => rw [hb] at h; exact h
    | false => exact bne_eq_false_iff_eq.1 hb
  have := firstR_zero (rules1_ne i) h1 (!(wI i.side 0 1), 11) (by simp [rules1])
  have := (wI_iff i.side 0 1).1 (by simpa using this)
  omega
theorem matT_comm (i j : Ins) (t : Int) : matT i j t = matT j i t := by
  unfold matT
  rw [show (matE i j t != 0) = (matE j i t != 0) from congrArg (!·) (eq_zero_of_iff (matE_comm i j t))]
  cases h : matE j i t != 0 with
  | true => rfl
  | false =>
    have h0 := matE_fields.1 (bne_eq_false_iff_eq.1 h)
    obtain ⟨_, hj, hi, _, _⟩ := cmpE_zero.1 h0.1
    have hs : (j.side != i.side) = true := h0.2 1 (by decide)
    have hs := bne_iff_ne.1 hs
    simp only [cond_false]
    rcases check_side hi with a | a <;> rcases check_side hj with b | b
    · exact absurd (b.trans a.symm) hs
    · rw [a, b]; rfl
    · rw [a, b]; rfl
    · exact absurd (b.trans a.symm) hs

def symB (i j : Ins) (t : Int) : Bool := ((!((matE i.nrm j.nrm t == 0) == (matE j.nrm i.nrm t == 0))) || !sameT (matT i.nrm j.nrm t) (matT j.nrm i.nrm t)) || !((cmpE i.nrm j.nrm t == 0) == (cmpE j.nrm i.nrm t == 0))
theorem symB_false (i j : Ins) (t : Int) : symB i j t = false := by
  unfold symB
  rw [eq_zero_of_iff (matE_comm i.nrm j.nrm t), matT_comm i.nrm j.nrm t, eq_zero_of_iff (cmpE_comm i.nrm j.nrm t), sameT_self]
  simp
set_option maxRecDepth 100000 in
theorem symmetry_law (i j : Ins) (t : Int) (hi : i.wf) (hj : j.wf) : Pure Tryd.prog 13 [i.rv, j.rv, vI t] (bv true) := by
  have key : ((!true) = false → 2 ≤ 1000000) ∧ ((!true) = false → okIns 2 (fun k => [i.rv, j.rv].getD k default)) ∧ (((!true) || !fewIJ i j) = true → Fin (bv true) (bv true)) ∧ (((!true) || !fewIJ i j) = false →
      i.wf ∧ i.ln ≤ 1000 ∧ j.wf ∧ j.ln ≤ 1000 ∧ i.nrm.wf ∧ j.nrm.wf ∧ j.nrm.wf ∧ i.nrm.wf ∧ i.nrm.wf ∧ j.nrm.wf ∧ j.nrm.wf ∧ i.nrm.wf ∧
      (symB i j t = true → Fin (bv false) (bv true)) ∧ (symB i j t = false →
        (cmpL i.nrm j.nrm t).length ≤ 1000000 ∧ okNum (cmpL i.nrm j.nrm t).length (lsF (cmpL i.nrm j.nrm t)) ∧ okNum (cmpL j.nrm i.nrm t).length (lsF (cmpL j.nrm i.nrm t)) ∧
        Fin (bv (sameX (cmpL i.nrm j.nrm t).length (cmpL j.nrm i.nrm t).length (fun k => numD (lsF (cmpL i.nrm j.nrm t) k)) (fun k => numD (lsF (cmpL j.nrm i.nrm t) k)) && ((matE i.nrm j.nrm t == 0) == ((cmpE i.nrm j.nrm t == 0) && (((cmpL i.nrm j.nrm t).length : Int) == 0))))) (bv true))) := by
    refine ⟨fun _ => by decide, fun _ => okIns_two i j, fun _ => fin_of rfl, fun h => ?_⟩
    obtain ⟨h1, h2⟩ := few_ln (i := i) (j := j) (by simpa using h)
    refine ⟨hi, by omega, hj, by omega, nrm_wf i, nrm_wf j, nrm_wf j, nrm_wf i, nrm_wf i, nrm_wf j, nrm_wf j, nrm_wf i, fun hb => ?_, fun _ => ⟨one_len, okNum_ls _ _, okNum_ls _ _, fin_of ?_⟩⟩
    · rw [symB_false] at hb; cases hb
    · rw [cmpL_comm j.nrm i.nrm t, same_self, Bool.true_and]
      have e : (matE i.nrm j.nrm t == 0) = ((cmpE i.nrm j.nrm t == 0) && (((cmpL i.nrm j.nrm t).length : Int) == 0)) := by
        rw [Bool.eq_iff_iff, beq_iff_eq, matE_zero, Bool.and_eq_true, beq_iff_eq, beq_iff_eq]
        simp
      rw [e, beq_self_eq_true]
  exact pure_vc (τ := tab) mixed tabLw_ok Tryd.f13 Tryd.func13 (by kernel_rfl) rfl (by kernel_rfl) key (by kernel_rfl)

theorem matE_more {i j : Ins} {s t : Int} (h : matE i j s = 0) (hst : s ≤ t) (ht : t ≤ 1000000000000000) : matE i j t = 0 := by
  obtain ⟨h1, h2⟩ := matE_fields.1 h
  obtain ⟨⟨h3, _⟩, h4⟩ := cmpE_zero.1 h1
  refine matE_fields.2 ⟨cmpE_zero.2 ⟨⟨by omega, ht⟩, h4⟩, fun k hk => ?_⟩
  match k, hk with
  | 0, _ => exact h2 0 (by decide)
  | 1, _ => exact h2 1 (by decide)
  | 2, _ => exact h2 2 (by decide)
  | 3, _ => exact h2 3 (by decide)
  | 4, _ => exact h2 4 (by decide)
  | 5, _ =>
    have : distI i.amt j.amt ≤ s := of_decide_eq_true (h2 5 (by decide))
    exact decide_eq_true (by omega : distI i.amt j.amt ≤ t)
  | 6, _ => exact h2 6 (by decide)
  | 7, _ => exact h2 7 (by decide)
set_option maxRecDepth 100000 in
theorem tolerance_law (i j : Ins) (a b : Int) (hi : i.wf) (hj : j.wf) : Pure Tryd.prog 14 [i.rv, j.rv, .agg [vI a, vI b]] (bv true) := by
  have key : ((!true) = false → 2 ≤ 1000000) ∧ ((!true) = false → okIns 2 (fun k => [i.rv, j.rv].getD k default)) ∧ (((!true) || !fewIJ i j) = true → Fin (bv true) (bv true)) ∧ (((!true) || !fewIJ i j) = false →
      ((0 : Int) ≤ 0 ∧ (0 : Int) < 2) ∧ ((0 : Int) ≤ 1 ∧ (1 : Int) < 2) ∧ ((0 : Int) ≤ 0 ∧ (0 : Int) < 2) ∧ ((0 : Int) ≤ 1 ∧ (1 : Int) < 2) ∧
      i.wf ∧ i.ln ≤ 1000 ∧ j.wf ∧ j.ln ≤ 1000 ∧ i.nrm.wf ∧ j.nrm.wf ∧
      (((matE i.nrm j.nrm (min a b) != 0) || decide (max a b > 1000000000000000)) = true → Fin (bv true) (bv true)) ∧ (((matE i.nrm j.nrm (min a b) != 0) || decide (max a b > 1000000000000000)) = false →
        i.wf ∧ i.ln ≤ 1000 ∧ j.wf ∧ j.ln ≤ 1000 ∧ i.nrm.wf ∧ j.nrm.wf ∧ Fin (bv ((matE i.nrm j.nrm (max a b) == 0) && sameT (matT i.nrm j.nrm (min a b)) (matT i.nrm j.nrm (max a b)))) (bv true))) := by
    refine ⟨fun _ => by decide, fun _ => okIns_two i j, fun _ => fin_of rfl, fun h => ?_⟩
    obtain ⟨h1, h2⟩ := few_ln (i := i) (j := j) (by simpa using h)
    refine ⟨by decide, by decide, by decide, by decide, hi, by omega, hj, by omega, nrm_wf i, nrm_wf j, fun _ => fin_of rfl, fun h => ⟨hi, by omega, hj, by omega, nrm_wf i, nrm_wf j, fin_of ?_⟩⟩
    rw [Bool.or_eq_false_iff] at h
    have e1 : matE i.nrm j.nrm (min a b) = 0 := bne_eq_false_iff_eq.1 h.1
    have hmax : max a b ≤ 1000000000000000 := by have := of_decide_eq_false h.2; omega
    have e2 := matE_more e1 (show min a b ≤ max a b by omega) hmax
    have e3 : matT i.nrm j.nrm (min a b) = matT i.nrm j.nrm (max a b) := by unfold matT; rw [e1, e2]
    rw [e2, e3, sameT_self]; rfl
  exact pure_vc (τ := tab) mixed tabLw_ok Tryd.f14 Tryd.func14 (by kernel_rfl) rfl (by kernel_rfl) key (by kernel_rfl)
end Go.Proofs.YtekifbnnkcgipaaDoor
