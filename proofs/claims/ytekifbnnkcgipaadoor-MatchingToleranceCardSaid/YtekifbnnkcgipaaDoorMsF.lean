/- Contract of giro/matching.Compare. Conditions: links that are links. -/
import Derived.Test.YtekifbnnkcgipaaDoorMsE
namespace Go.Proofs.YtekifbnnkcgipaaDoor
open Go.Sim

def cmpE (i j : Ins) (t : Int) : Int := bif decide (t < 0) || decide (t > 1000000000000000) then 2 else bif msgCheck i != 0 then msgCheck i else bif msgCheck j != 0 then msgCheck j else bif !i.isSec || !j.isSec then 11 else 0
/-- The places below n where p does not hold. -/
def failL (p : Nat → Bool) : Nat → List Int
  | 0 => []
  | k + 1 => bif p k then failL p k else failL p k ++ [(k : Int)]
theorem failL_len (p : Nat → Bool) : ∀ n, (failL p n).length ≤ n
  | 0 => Nat.le_refl _
  | n + 1 => by
    have := failL_len p n
    simp only [failL]
    cases p n <;> simp <;> omega
def lsF (l : List Int) : Nat → RV := fun k => vI (l.getD k 0)
def lsRV (l : List Int) : RV := .row 1 l.length (lsF l)
theorem lsF_push (l : List Int) (n : Nat) (f g : Nat → RV) (v : Int) (hn : n = l.length) (hf : ∀ q, q < n → f q = lsF l q) (hg : g 0 = vI v) (k : Nat) (h : k < n + 1) : joinF n f g k = lsF (l ++ [v]) k := by
  unfold joinF
  cases hb : Nat.blt k n with
  | true =>
    have hlt : k < n := Nat.le_of_ble_eq_true hb
    simp only [cond_true]
    rw [hf k hlt]
    simp [lsF, List.getD_eq_getElem?_getD, List.getElem?_append_left (show k < l.length by omega)]
  | false =>
    have hge : ¬ k < n := fun hlt => by rw [show Nat.blt k n = true from Nat.ble_eq_true_of_le hlt] at hb; cases hb
    obtain rfl : k = n := by omega
    simp only [cond_false, Nat.sub_self]
    rw [hg]
    simp [lsF, List.getD_eq_getElem?_getD, hn]

def tabCm : List (Nat × Entry) := [(46, eIn1 fun i => iv (msgCheck i)), (67, eIns fun i => bv i.isSec), (68, eCmps),
  (101, eI2 fun i j => bv (cmpF i j 0 0)), (102, eI2 fun i j => bv (cmpF i j 0 1)), (103, eI2 fun i j => bv (cmpF i j 0 2)), (104, eI2 fun i j => bv (cmpF i j 0 3)),
  (105, eI2 fun i j => bv (cmpF i j 0 4)), (106, eI2T fun i j t => bv (cmpF i j t 5)), (107, eI2 fun i j => bv (cmpF i j 0 6)), (108, eI2 fun i j => bv (cmpF i j 0 7))]
theorem tabCm_ok : SpecOk Tryd.prog (table tabCm) := table_ok ⟨check_ok, needs_ok, cmps_ok, eI2_ok (enters Tryd.f101 Tryd.func101 (by kernel_rfl)) cmp1_pure,
  eI2_ok (enters Tryd.f102 Tryd.func102 (by kernel_rfl)) cmp2_pure, eI2_ok (enters Tryd.f103 Tryd.func103 (by kernel_rfl)) cmp3_pure,
  eI2_ok (enters Tryd.f104 Tryd.func104 (by kernel_rfl)) cmp4_pure, eI2_ok (enters Tryd.f105 Tryd.func105 (by kernel_rfl)) cmp5_pure,
  eI2T_ok (enters Tryd.f106 Tryd.func106 (by kernel_rfl)) cmp6_pure, eI2_ok (enters Tryd.f107 Tryd.func107 (by kernel_rfl)) cmp7_pure,
  eI2_ok (enters Tryd.f108 Tryd.func108 (by kernel_rfl)) cmp8_pure, trivial⟩

def cmSt (i j : Ins) (t : Int) (k n : Nat) (f : Nat → RV) : St := ⟨54, [(10, .own 0), (3, .d (.ref i.nrm.cells)), (4, .d (.ref j.nrm.cells)), (38, .d (cmpsRV t)), (39, iv k)], [], [], [(0, ⟨3, 1, n, f⟩)], 1⟩
def cmOut (n : Nat) (f : Nat → RV) : St := ⟨54, [(10, .own 0)], [], [], [(0, ⟨3, 1, n, f⟩)], 1⟩
/-- A result of Compare, as it stands. -/
def cmX (i j : Ins) (t : Int) : SV := bif cmpE i j t != 0 then .tup [.d .nil, iv (cmpE i j t)] else .tup [.d (lsRV (failL (cmpF i j t) 8)), iv 0]
theorem cmX_err {i j : Ins} {t : Int} {e : Int} (h : cmpE i j t = e) (he : e ≠ 0) : .tup [.d .nil, iv e] = cmX i j t := by unfold cmX; rw [h, bne_iff_ne.2 he]; rfl
abbrev CmRound (i j : Ins) (t : Int) (n : Nat) (f : Nat → RV) (k : Nat) : Prop :=
  (decide ((k : Int) < 8) = true → ((0 : Int) ≤ k ∧ (k : Int) < 8) ∧
    ((!cmpF i j t k) = true → (n + 1) * 8 ≤ 140737488351232 ∧ ∃ x : Nat × Nat × (Nat → RV), 8 - x.1 < 8 - k ∧ (x.1 ≤ 8 ∧ x.2.1 = (failL (cmpF i j t) x.1).length ∧ ∀ q, q < x.2.1 → x.2.2 q = lsF (failL (cmpF i j t) x.1) q) ∧
      some (cmSt i j t (k + 1) (n + 1) (joinF n f fun q => [vI k].getD q default)) = some (cmSt i j t x.1 x.2.1 x.2.2)) ∧
    ((!cmpF i j t k) = false → ∃ x : Nat × Nat × (Nat → RV), 8 - x.1 < 8 - k ∧ (x.1 ≤ 8 ∧ x.2.1 = (failL (cmpF i j t) x.1).length ∧ ∀ q, q < x.2.1 → x.2.2 q = lsF (failL (cmpF i j t) x.1) q) ∧
      some (cmSt i j t (k + 1) n f) = some (cmSt i j t x.1 x.2.1 x.2.2))) ∧
  (decide ((k : Int) < 8) = false → ∃ y : Nat × (Nat → RV), (y.1 = (failL (cmpF i j t) 8).length ∧ ∀ q, q < y.1 → y.2 q = lsF (failL (cmpF i j t) 8) q) ∧ some (cmOut n f) = some (cmOut y.1 y.2))
theorem cm_round (i j : Ins) (t : Int) (n : Nat) (f : Nat → RV) (k : Nat) (hk : k < 8) (hn : n = (failL (cmpF i j t) k).length) (hf : ∀ q, q < n → f q = lsF (failL (cmpF i j t) k) q) : CmRound i j t n f k := by
  have hl := failL_len (cmpF i j t) k
  refine ⟨fun _ => ⟨⟨by omega, by omega⟩, fun hc => ⟨by omega, (k + 1, n + 1, joinF n f fun q => [vI k].getD q default), ?_, ⟨?_, ?_, ?_⟩, rfl⟩, fun hc => ⟨(k + 1, n, f), ?_, ⟨?_, ?_, ?_⟩, rfl⟩⟩, fun h => ?_⟩
  · show 8 - (k + 1) < 8 - k; omega
  · show k + 1 ≤ 8; omega
  · show n + 1 = (failL (cmpF i j t) (k + 1)).length
    have hc : cmpF i j t k = false := by simpa using hc
    simp [failL, hc, hn]
  · intro q hq
    have hc : cmpF i j t k = false := by simpa using hc
    show joinF n f (fun q => [vI (k : Int)].getD q default) q = lsF (failL (cmpF i j t) (k + 1)) q
    simp only [failL, hc, cond_false]
    exact lsF_push _ n f _ k hn hf rfl q hq
  · show 8 - (k + 1) < 8 - k; omega
  · show k + 1 ≤ 8; omega
  · show n = (failL (cmpF i j t) (k + 1)).length
    have hc : cmpF i j t k = true := by simpa using hc
    simp [failL, hc, hn]
  · intro q hq
    have hc : cmpF i j t k = true := by simpa using hc
    show f q = lsF (failL (cmpF i j t) (k + 1)) q
    simp only [failL, hc, cond_true]
    exact hf q hq
  · have := of_decide_eq_false h; omega

set_option maxRecDepth 100000 in
set_option maxHeartbeats 1000000 in
theorem cmpX_nrm (i j : Ins) (t : Int) : Pure Tryd.prog 32 [i.nrm.rv, j.nrm.rv, vI t] (cmX i j t) := by
  refine pure_list (τ := tab) Tryd.f32 Tryd.func32 (by kernel_rfl) (by unfold cmX; cases cmpE i j t != 0 <;> rfl) (by kernel_rfl) ?_
  have key1 : ((decide (t < 0) || decide (t > 1000000000000000)) = true → Fin (.tup [.d .nil, iv 2]) (cmX i j t)) ∧ ((decide (t < 0) || decide (t > 1000000000000000)) = false → i.nrm.wf ∧
      ((msgCheck i.nrm != 0) = true → Fin (.tup [.d .nil, iv (msgCheck i.nrm)]) (cmX i j t)) ∧ ((msgCheck i.nrm != 0) = false → j.nrm.wf ∧
      ((msgCheck j.nrm != 0) = true → Fin (.tup [.d .nil, iv (msgCheck j.nrm)]) (cmX i j t)) ∧ ((msgCheck j.nrm != 0) = false →
      ((!i.isSec || !j.isSec) = true → Fin (.tup [.d .nil, iv 11]) (cmX i j t)) ∧ ((!i.isSec || !j.isSec) = false → ∃ _ : Unit, cmpE i j t = 0 ∧ some (cmSt i j t 0 0 (lsF [])) = some (cmSt i j t 0 0 (lsF [])))))) := by
    refine ⟨fun h1 => fin_of (cmX_err (by unfold cmpE; rw [h1]; rfl) (by decide)), fun h1 => ⟨fun q _ => rfl, fun h2 => fin_of (cmX_err ?_ ?_), fun h2 => ⟨fun q _ => rfl, fun h3 => fin_of (cmX_err ?_ ?_), fun h3 => ⟨fun h4 => fin_of (cmX_err ?_ (by decide)), fun h4 => ⟨(), ?_, rfl⟩⟩⟩⟩⟩
    · rw [msgCheck_nrm] at h2 ⊢
      unfold cmpE; rw [h1, h2]; rfl
    · exact bne_iff_ne.1 h2
    · rw [msgCheck_nrm] at h2 h3 ⊢
      unfold cmpE; rw [h1, h2, h3]; rfl
    · exact bne_iff_ne.1 h3
    · rw [msgCheck_nrm] at h2 h3
      unfold cmpE; rw [h1, h2, h3, h4]; rfl
    · rw [msgCheck_nrm] at h2 h3
      unfold cmpE; rw [h1, h2, h3, h4]; rfl
  refine wpL_cut (τ := tab) (sp := table tabCm) mixed tabCm_ok 13 (.both (.frzB [3, 4]) (.nilO [3, 4, 38, 39] 10 3 1 (lsF []))) (fun _ : Unit => cmpE i j t = 0) (fun _ => cmSt i j t 0 0 (lsF [])) (Eq.mp (by kernel_rfl) key1) fun _ h0 => ?_
  refine wpL_loop (by kernel_rfl) (fun x : Nat × Nat × (Nat → RV) => cmSt i j t x.1 x.2.1 x.2.2) (fun x => 8 - x.1) (fun x => x.1 ≤ 8 ∧ x.2.1 = (failL (cmpF i j t) x.1).length ∧ ∀ q, q < x.2.1 → x.2.2 q = lsF (failL (cmpF i j t) x.1) q)
    (.alt (.ren [10, 3, 4, 38, 39] 1 0 1) (.ren [10, 3, 4, 38, 39] 0 0 1)) (.ren [10] 0 0 1) (fun y : Nat × (Nat → RV) => y.1 = (failL (cmpF i j t) 8).length ∧ ∀ q, q < y.1 → y.2 q = lsF (failL (cmpF i j t) 8) q) (fun y => cmOut y.1 y.2) (0, 0, lsF []) ⟨Nat.zero_le _, rfl, fun q hq => rfl⟩ ?_ ?_
  · rintro ⟨k, n, f⟩ ⟨hk, hn, hf⟩
    have key := cm_round i j t n f k
    match k, hk, hn, hf, key with
    | 0, _, hn, hf, key => exact vcL_end (τ := tab) (sp := table tabCm) mixed tabCm_ok _ _ _ (Eq.mp (by kernel_rfl) (key (by decide) hn hf))
    | 1, _, hn, hf, key => exact vcL_end (τ := tab) (sp := table tabCm) mixed tabCm_ok _ _ _ (Eq.mp (by kernel_rfl) (key (by decide) hn hf))
    | 2, _, hn, hf, key => exact vcL_end (τ := tab) (sp := table tabCm) mixed tabCm_ok _ _ _ (Eq.mp (by kernel_rfl) (key (by decide) hn hf))
    | 3, _, hn, hf, key => exact vcL_end (τ := tab) (sp := table tabCm) mixed tabCm_ok _ _ _ (Eq.mp (by kernel_rfl) (key (by decide) hn hf))
    | 4, _, hn, hf, key => exact vcL_end (τ := tab) (sp := table tabCm) mixed tabCm_ok _ _ _ (Eq.mp (by kernel_rfl) (key (by decide) hn hf))
    | 5, _, hn, hf, key => exact vcL_end (τ := tab) (sp := table tabCm) mixed tabCm_ok _ _ _ (Eq.mp (by kernel_rfl) (key (by decide) hn hf))
    | 6, _, hn, hf, key => exact vcL_end (τ := tab) (sp := table tabCm) mixed tabCm_ok _ _ _ (Eq.mp (by kernel_rfl) (key (by decide) hn hf))
    | 7, _, hn, hf, key => exact vcL_end (τ := tab) (sp := table tabCm) mixed tabCm_ok _ _ _ (Eq.mp (by kernel_rfl) (key (by decide) hn hf))
    | 8, _, hn, hf, _ =>
      have key8 : (decide ((8 : Int) < 8) = true → False) ∧ (decide ((8 : Int) < 8) = false → ∃ y : Nat × (Nat → RV), (y.1 = (failL (cmpF i j t) 8).length ∧ ∀ q, q < y.1 → y.2 q = lsF (failL (cmpF i j t) 8) q) ∧ some (cmOut n f) = some (cmOut y.1 y.2)) :=
        ⟨fun h => (by cases h), fun _ => ⟨(n, f), ⟨hn, hf⟩, rfl⟩⟩
      exact vcL_end (τ := tab) (sp := table tabCm) mixed tabCm_ok _ _ _ (Eq.mp (by kernel_rfl) key8)
    | k + 9, hk, _, _, _ => exact absurd (show k + 9 ≤ 8 from hk) (by omega)
  · rintro ⟨n, f⟩ ⟨hn, hf⟩
    refine WpL.weak (weaker_row hn hf) ?_
    exact vcL_end (τ := tab) (sp := table tabCm) mixed tabCm_ok _ _ _ (Eq.mp (by kernel_rfl) (fin_of (y := .tup [.d (lsRV (failL (cmpF i j t) 8)), iv 0]) (x := cmX i j t) (by unfold cmX; rw [h0]; rfl)))
/-- The list of Compare, and its error. -/
def cmpL (i j : Ins) (t : Int) : List Int := bif cmpE i j t != 0 then [] else failL (cmpF i j t) 8
theorem pure_res {g : FuncId} {args : List RV} {x y : SV} (h : Pure Tryd.prog g args x) (hxy : ∀ (β : Envr) (N : Nat → Prop) (w : World) (v : Value), SDen β N w x v → SDen β N w y v) : Pure Tryd.prog g args y := by
  intro N w vs hN hc
  exact (h N w vs hN hc).mono fun e w' ⟨v, he, hd, hb⟩ => ⟨v, he, fun β => hxy β N w' v (hd β), hb⟩
theorem tup_head {β : Envr} {N : Nat → Prop} {w : World} {x y : SV} {l : List SV} (h : ∀ v, SDen β N w x v → SDen β N w y v) {v : Value} (hv : SDen β N w (.tup (x :: l)) v) : SDen β N w (.tup (y :: l)) v := by
  cases hv with
  | tup _ vs hl hd =>
    refine .tup _ vs hl fun k z u hz hu => ?_
    match k with
    | 0 => simp at hz; subst hz; exact h u (hd 0 x u rfl hu)
    | k + 1 => exact hd (k + 1) z u hz hu
theorem compare_nrm (i j : Ins) (t : Int) : Pure Tryd.prog 32 [i.nrm.rv, j.nrm.rv, vI t] (.tup [.d (lsRV (cmpL i j t)), iv (cmpE i j t)]) := by
  refine pure_res (cmpX_nrm i j t) fun β N w v hv => ?_
  unfold cmX at hv
  unfold cmpL
  cases h : cmpE i j t != 0 with
  | true =>
    rw [h] at hv
    refine tup_head (fun u hu => ?_) hv
    cases hu with
    | d hu => cases hu; exact .d (.nil _ _)
  | false =>
    rw [h] at hv
    have e : cmpE i j t = 0 := bne_eq_false_iff_eq.1 h
    rw [e]; exact hv
end Go.Proofs.YtekifbnnkcgipaaDoor
