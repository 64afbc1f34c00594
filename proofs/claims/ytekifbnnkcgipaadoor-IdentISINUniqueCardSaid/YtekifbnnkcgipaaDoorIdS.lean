/- girolaw05's laws on uniqueness, substitution and prefixes: each returns true. Conditions: none. -/
import Derived.Test.YtekifbnnkcgipaaDoorIdK
namespace Go.Proofs.YtekifbnnkcgipaaDoor
open Go.Sim

/-- How many of the first k numbers have p. -/
def cnt (p : Nat → Bool) : Nat → Nat
  | 0 => 0
  | k + 1 => bif p k then cnt p k + 1 else cnt p k
theorem cnt_le (p : Nat → Bool) : ∀ k, cnt p k ≤ k
  | 0 => Nat.le_refl _
  | k + 1 => by
    have := cnt_le p k
    simp only [cnt]
    cases p k <;> simp <;> omega
theorem cnt_none {p : Nat → Bool} : ∀ {k : Nat}, (∀ j, j < k → p j = false) → cnt p k = 0
  | 0, _ => rfl
  | k + 1, h => by
    simp only [cnt]
    rw [h k (by omega), cnt_none fun j hj => h j (by omega)]; rfl
theorem cnt_one {p : Nat → Bool} {d : Nat} (hd : p d = true) : ∀ {k : Nat}, d < k → (∀ j, j < k → j ≠ d → p j = false) → cnt p k = 1
  | 0, h, _ => by omega
  | k + 1, h, hne => by
    simp only [cnt]
    by_cases e : k = d
    · subst e
      rw [hd, cnt_none fun j hj => hne j (by omega) (by omega)]; rfl
    · rw [hne k (by omega) e, cnt_one hd (by omega) fun j hj => hne j (by omega)]; rfl

theorem wrap_nat (n : Nat) (h : n ≤ 1000000) : IntKind.i64.wrap ((n : Int) + 1) = ((n + 1 : Nat) : Int) := i64_succ n (by omega)

/-- The head of the loop: the string, the error, the count, the number. -/
def uqG (nt : Nat) (t : ByteArray) (e n d : Int) : St := ⟨nt, [(0, .d (.val (.string t))), (4, .d (.val (.int .i64 e))), (5, .d (.val (.int .i64 n))), (6, .d (.val (.int .i64 d)))], [], [], [], 0⟩
def uqO (nt : Nat) (e n : Int) : St := ⟨nt, [(4, .d (.val (.int .i64 e))), (5, .d (.val (.int .i64 n)))], [], [], [], 0⟩

set_option maxRecDepth 100000 in
theorem leiUnique_law (s : ByteArray) : Pure Tryd.prog 5 [.val (.string s)] (.d (.val (.bool true))) := by
  have hc := cut100_le s
  refine pure_list (τ := tab) Tryd.f5 Tryd.func5 (by kernel_rfl) rfl (by kernel_rfl) ?_
  -- ahead of the loop
  have key1 : CutB s ∧ ∃ y : Unit, True ∧ some (uqG 48 (cut100 s) (leiD (cut100 s)).2 0 0) = some ((fun _ => uqG 48 (cut100 s) (leiD (cut100 s)).2 0 0) y) := ⟨cut_bound s, (), trivial, rfl⟩
  refine wpL_cut (τ := tab) (sp := table tabC) mixed tabC_ok 5 (.keep [0, 4, 5, 6]) (fun _ : Unit => True) (fun _ => uqG 48 (cut100 s) (leiD (cut100 s)).2 0 0) (Eq.mp (by kernel_rfl) key1) fun _ _ => ?_
  have hone : ∀ d, d < 100 → validB 3 (cut100 s ++ pairStr d) = (beginsOut 3 18 (cut100 s) == 0 && d == 98 - m97 (exps (cut100 s) 18 ++ [0, 0])) := fun d hd => lei_one _ hd
  have he : (leiD (cut100 s)).2 = beginsOut 3 18 (cut100 s) := by
    unfold leiD
    cases hb : beginsOut 3 18 (cut100 s) != 0 with
    | true => rfl
    | false => exact (bne_eq_false_iff_eq.1 hb).symm
  generalize leiD (cut100 s) = dd at *
  obtain ⟨_, e⟩ := dd
  generalize cut100 s = t at *
  simp only at he
  generalize hp : (fun d => validB 3 (t ++ pairStr d)) = p at *
  have hpd : ∀ d, validB 3 (t ++ pairStr d) = p d := fun d => by rw [← hp]
  -- the loop
  refine wpL_loop (by kernel_rfl) (fun k : Nat => uqG 48 t e (cnt p k) k) (fun k => 100 - k) (fun k => k ≤ 100) (.keep [0, 4, 5, 6]) (.keep [4, 5]) (fun _ : Unit => True) (fun _ => uqO 48 e (cnt p 100)) 0 (by omega) (fun k hk => ?_) fun _ _ => ?_
  · have hcl := cnt_le p k
    have key2 : (decide ((k : Int) < 100) = true → ((10 : Int) ≠ 0) ∧ ((10 : Int) ≠ 0) ∧ (((t.size + (strOfNums [prA k, prB k]).size : Nat) : Int) ≤ IntKind.i64.max) ∧
          (validB 3 (t ++ strOfNums [prA k, prB k]) = true → ∃ k', 100 - k' < 100 - k ∧ k' ≤ 100 ∧ some (uqG 48 t e (IntKind.i64.wrap ((cnt p k : Int) + 1)) (IntKind.i64.wrap ((k : Int) + 1))) = some (uqG 48 t e (cnt p k') k')) ∧
          (validB 3 (t ++ strOfNums [prA k, prB k]) = false → ∃ k', 100 - k' < 100 - k ∧ k' ≤ 100 ∧ some (uqG 48 t e (cnt p k) (IntKind.i64.wrap ((k : Int) + 1))) = some (uqG 48 t e (cnt p k') k'))) ∧
        (decide ((k : Int) < 100) = false → ∃ y : Unit, True ∧ some (uqO 48 e (cnt p k)) = some ((fun _ => uqO 48 e (cnt p 100)) y)) := by
      refine ⟨fun h => ?_, fun h => ?_⟩
      · have hlt : k < 100 := by have := of_decide_eq_true h; omega
        refine ⟨ne10, ne10, imax_le (by rw [strOfNums_size]; simp only [List.length_cons, List.length_nil]; omega), fun hv => ?_, fun hv => ?_⟩
        · rw [pair_str k hlt, hpd] at hv
          exact ⟨k + 1, by omega, by omega, by rw [wrap_nat _ (by omega), wrap_nat _ (by omega), show cnt p (k + 1) = cnt p k + 1 by rw [cnt, hv]; rfl]⟩
        · rw [pair_str k hlt, hpd] at hv
          exact ⟨k + 1, by omega, by omega, by rw [wrap_nat k (by omega), show cnt p (k + 1) = cnt p k by rw [cnt, hv]; rfl]⟩
      · have hge : k = 100 := by have := of_decide_eq_false h; omega
        exact ⟨(), trivial, by rw [hge]⟩
    exact vcL_end (τ := tab) (sp := table tabC) mixed tabC_ok _ _ _ (Eq.mp (by kernel_rfl) key2)
  · have hfin : ((true && (((cnt p 100 : Int) == 1) == (e == 0))) && decide ((cnt p 100 : Int) < 2)) = true := by
      cases hb : beginsOut 3 18 t == 0 with
      | true =>
        have h1 : cnt p 100 = 1 := by
          refine cnt_one (d := 98 - m97 (exps t 18 ++ [0, 0])) ?_ (by omega) fun j hj hne => ?_
          · rw [← hpd, hone _ (by omega), hb]; simp
          · rw [← hpd, hone j hj, hb]; simpa using hne
        rw [h1, he, hb]; rfl
      | false =>
        have h0 : cnt p 100 = 0 := cnt_none fun j hj => by rw [← hpd, hone j hj, hb]; rfl
        rw [h0, he, hb]; rfl
    have key3 : FinT ((true && (((cnt p 100 : Int) == 1) == (e == 0))) && decide ((cnt p 100 : Int) < 2)) := finT hfin
    exact vcL_end (τ := tab) (sp := table tabC) mixed tabC_ok _ _ _ (Eq.mp (by kernel_rfl) key3)

theorem one_str {k : Nat} (h : k < 10) : strOfNums [IntKind.u8.wrap (IntKind.i64.wrap (48 + (k : Int)))] = digStr [k] := by
  rw [IntWalk.i64_in _ ⟨by omega, by omega⟩, IntWalk.u8_in _ ⟨by omega, by omega⟩]
  unfold strOfNums digStr asc
  simp only [List.map]
  rw [show ((48 + (k : Int)).toNat) = 48 + k by omega]
set_option maxRecDepth 100000 in
theorem isinUnique_law (s : ByteArray) : Pure Tryd.prog 10 [.val (.string s)] (.d (.val (.bool true))) := by
  have hc := cut100_le s
  refine pure_list (τ := tab) Tryd.f10 Tryd.func10 (by kernel_rfl) rfl (by kernel_rfl) ?_
  have key1 : CutB s ∧ ∃ y : Unit, True ∧ some (uqG 43 (cut100 s) (isinOut (cut100 s)).2 0 0) = some ((fun _ => uqG 43 (cut100 s) (isinOut (cut100 s)).2 0 0) y) := ⟨cut_bound s, (), trivial, rfl⟩
  refine wpL_cut (τ := tab) (sp := table tabC) mixed tabC_ok 5 (.keep [0, 4, 5, 6]) (fun _ : Unit => True) (fun _ => uqG 43 (cut100 s) (isinOut (cut100 s)).2 0 0) (Eq.mp (by kernel_rfl) key1) fun _ _ => ?_
  have hone : ∀ d, d < 10 → validB 0 (cut100 s ++ digStr [d]) = (beginsOut 0 11 (cut100 s) == 0 && d == luhnD (exps (cut100 s) 11)) := fun d hd => isin_one _ hd
  have he : (isinOut (cut100 s)).2 = beginsOut 0 11 (cut100 s) := by
    unfold isinOut
    cases hb : beginsOut 0 11 (cut100 s) != 0 with
    | true => rfl
    | false => exact (bne_eq_false_iff_eq.1 hb).symm
  have hlu := luhnD_lt (exps (cut100 s) 11)
  generalize isinOut (cut100 s) = dd at *
  obtain ⟨_, e⟩ := dd
  generalize cut100 s = t at *
  simp only at he
  generalize hp : (fun d => validB 0 (t ++ digStr [d])) = p at *
  have hpd : ∀ d, validB 0 (t ++ digStr [d]) = p d := fun d => by rw [← hp]
  refine wpL_loop (by kernel_rfl) (fun k : Nat => uqG 43 t e (cnt p k) k) (fun k => 10 - k) (fun k => k ≤ 10) (.keep [0, 4, 5, 6]) (.keep [4, 5]) (fun _ : Unit => True) (fun _ => uqO 43 e (cnt p 10)) 0 (by omega) (fun k hk => ?_) fun _ _ => ?_
  · have hcl := cnt_le p k
    have key2 : (decide ((k : Int) < 10) = true → (((t.size + (strOfNums [IntKind.u8.wrap (IntKind.i64.wrap (48 + (k : Int)))]).size : Nat) : Int) ≤ IntKind.i64.max) ∧
          (validB 0 (t ++ strOfNums [IntKind.u8.wrap (IntKind.i64.wrap (48 + (k : Int)))]) = true → ∃ k', 10 - k' < 10 - k ∧ k' ≤ 10 ∧ some (uqG 43 t e (IntKind.i64.wrap ((cnt p k : Int) + 1)) (IntKind.i64.wrap ((k : Int) + 1))) = some (uqG 43 t e (cnt p k') k')) ∧
          (validB 0 (t ++ strOfNums [IntKind.u8.wrap (IntKind.i64.wrap (48 + (k : Int)))]) = false → ∃ k', 10 - k' < 10 - k ∧ k' ≤ 10 ∧ some (uqG 43 t e (cnt p k) (IntKind.i64.wrap ((k : Int) + 1))) = some (uqG 43 t e (cnt p k') k'))) ∧
        (decide ((k : Int) < 10) = false → ∃ y : Unit, True ∧ some (uqO 43 e (cnt p k)) = some ((fun _ => uqO 43 e (cnt p 10)) y)) := by
      refine ⟨fun h => ?_, fun h => ?_⟩
      · have hlt : k < 10 := by have := of_decide_eq_true h; omega
        refine ⟨imax_le (by rw [strOfNums_size]; simp only [List.length_cons, List.length_nil]; omega), fun hv => ?_, fun hv => ?_⟩
        · rw [one_str hlt, hpd] at hv
          exact ⟨k + 1, by omega, by omega, by rw [wrap_nat _ (by omega), wrap_nat _ (by omega), show cnt p (k + 1) = cnt p k + 1 by rw [cnt, hv]; rfl]⟩
        · rw [one_str hlt, hpd] at hv
          exact ⟨k + 1, by omega, by omega, by rw [wrap_nat k (by omega), show cnt p (k + 1) = cnt p k by rw [cnt, hv]; rfl]⟩
      · have hge : k = 10 := by have := of_decide_eq_false h; omega
        exact ⟨(), trivial, by rw [hge]⟩
    exact vcL_end (τ := tab) (sp := table tabC) mixed tabC_ok _ _ _ (Eq.mp (by kernel_rfl) key2)
  · have hfin : ((true && (((cnt p 10 : Int) == 1) == (e == 0))) && decide ((cnt p 10 : Int) < 2)) = true := by
      cases hb : beginsOut 0 11 t == 0 with
      | true =>
        have h1 : cnt p 10 = 1 := by
          refine cnt_one (d := luhnD (exps t 11)) ?_ hlu fun j hj hne => ?_
          · rw [← hpd, hone _ hlu, hb]; simp
          · rw [← hpd, hone j hj, hb]; simpa using hne
        rw [h1, he, hb]; rfl
      | false =>
        have h0 : cnt p 10 = 0 := cnt_none fun j hj => by rw [← hpd, hone j hj, hb]; rfl
        rw [h0, he, hb]; rfl
    have key3 : FinT ((true && (((cnt p 10 : Int) == 1) == (e == 0))) && decide ((cnt p 10 : Int) < 2)) := finT hfin
    exact vcL_end (τ := tab) (sp := table tabC) mixed tabC_ok _ _ _ (Eq.mp (by kernel_rfl) key3)
end Go.Proofs.YtekifbnnkcgipaaDoor
