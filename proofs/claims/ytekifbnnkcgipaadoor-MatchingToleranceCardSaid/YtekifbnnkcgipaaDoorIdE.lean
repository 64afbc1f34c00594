/- Contract of the reference's Check. Conditions: none. -/
import Derived.Test.YtekifbnnkcgipaaDoorIdD
namespace Go.Proofs.YtekifbnnkcgipaaDoor
open Go.Sim

theorem byteAt_extract {s : ByteArray} {l h k : Nat} (hh : h ≤ s.size) (hk : k < h - l) : byteAt (s.extract l h) k = byteAt s (l + k) := by
  unfold byteAt
  rw [Array.getD_eq_getD_getElem?, Array.getD_eq_getD_getElem?, ByteArray.data_extract, Array.getElem?_extract, if_pos]
  have : s.data.size = s.size := rfl
  omega
theorem size_extract (s : ByteArray) (l h : Nat) : (s.extract l h).size = min h s.size - l := by simp
theorem exps_extract {s : ByteArray} {n : Nat} (h : n ≤ s.size) : exps (s.extract 0 n) (s.extract 0 n).size = exps s n := by
  rw [size_extract, show min n s.size - 0 = n by omega]
  exact exps_congr fun k hk => by rw [byteAt_extract h (by omega), Nat.zero_add]

/-- The two tests of check digits. -/
def badL (κ : Int) (s : ByteArray) : Bool := (κ == 0) && !(byteAt s 11 == 48 + ((luhnD (exps s 11) : Nat) : Int))
def badM (κ : Int) (s : ByteArray) : Bool := (κ == 3) && !((s.extract 18 s.size).toList == (pairStr (98 - m97 (exps s 18 ++ [0, 0]))).toList)
/-- What Check returns. -/
def checkOut (κ : Int) (s : ByteArray) : Int × Int :=
  bif decide (κ < 0) || decide (κ > 3) then (0, 11) else
  match scan (rbad κ s) (min s.size (hiK κ)) 0 with
  | some k => (k, 3)
  | none => bif decide ((s.size : Int) < loK κ) then (s.size, 4) else bif decide ((s.size : Int) > hiK κ) then (hiK κ, 5) else
    bif badL κ s then (11, 18) else bif badM κ s then (18, 18) else (0, 0)

def ckSt (κ : Int) (s : ByteArray) (i : Int) : St := ⟨75, [(0, .d (.val (.int .i64 κ))), (1, .d (.val (.string s))), (6, .d (.val (.int .i64 (loK κ)))), (7, .d (.val (.int .i64 (hiK κ)))), (8, .d (.val (.int .i64 i)))], [], [], [], 0⟩
/-- What the tests come to as the reference computes them. -/
def rc1 (κ : Int) (s : ByteArray) : Bool := (κ == 0) && (IntKind.i64.wrap (IntKind.u8.wrap (byteAt s 11 - 48)) != ((luhnD (exps (s.extract 0 11) (s.extract 0 11).size) : Nat) : Int))
def rz (s : ByteArray) : ByteArray := s.extract 0 18 ++ zz
def rn (s : ByteArray) : Int := IntKind.i64.wrap (98 - ((m97 (exps (rz s) (rz s).size) : Nat) : Int))
def rc2 (κ : Int) (s : ByteArray) : Bool := (κ == 3) && !((s.extract 18 s.size).toList == (pairStr (rn s).toNat).toList)

theorem hi_le (κ : Int) : hiK κ ≤ 20 := by unfold hiK; cases κ == 0 <;> cases κ == 1 <;> cases κ == 2 <;> simp

theorem alnum_extract {s : ByteArray} {n : Nat} (h : n ≤ s.size) (ha : alnum s n) : alnum (s.extract 0 n) (s.extract 0 n).size := by
  intro k hk
  rw [size_extract] at hk
  rw [byteAt_extract h (by omega), Nat.zero_add]
  exact ha k (by omega)

theorem rc1_eq {κ : Int} {s : ByteArray} (h : (κ == 0) = true → s.size = 12 ∧ digB (byteAt s 11) = true) : rc1 κ s = badL κ s := by
  unfold rc1 badL
  cases hk : κ == 0 with
  | false => rfl
  | true =>
    obtain ⟨h1, h2⟩ := h hk
    have h3 := (digB_iff _).1 h2
    rw [exps_extract (show 11 ≤ s.size by omega), IntWalk.u8_in _ ⟨by omega, by omega⟩, IntWalk.i64_in _ ⟨by omega, by omega⟩]
    generalize ((luhnD (exps s 11) : Nat) : Int) = y
    by_cases hy : byteAt s 11 = 48 + y
    · have e1 : (byteAt s 11 - 48 != y) = false := by simp; omega
      have e2 : (byteAt s 11 == 48 + y) = true := by simp; omega
      rw [e1, e2]; rfl
    · have e1 : (byteAt s 11 - 48 != y) = true := by simp; omega
      have e2 : (byteAt s 11 == 48 + y) = false := by simp; omega
      rw [e1, e2]; rfl
theorem rn_eq {s : ByteArray} (h : 18 ≤ s.size) : rn s = ((98 - m97 (exps s 18 ++ [0, 0]) : Nat) : Int) := by
  have hsz : (s.extract 0 18).size = 18 := by rw [size_extract]; omega
  have hz : (rz s).size = (s.extract 0 18).size + 2 := size_append _ zz
  have e : exps (rz s) (rz s).size = exps s 18 ++ [0, 0] := by
    rw [hz]
    exact (exps_zz (s.extract 0 18)).trans (congrArg (· ++ [0, 0]) (exps_extract h))
  have e2 : m97 (exps (rz s) (rz s).size) = m97 (exps s 18 ++ [0, 0]) := congrArg m97 e
  unfold rn
  rw [e2]
  have hm := m97_lt (exps s 18 ++ [0, 0])
  generalize m97 (exps s 18 ++ [0, 0]) = x at hm ⊢
  exact mo_wrap x hm
theorem rc2_eq {κ : Int} {s : ByteArray} (h : (κ == 3) = true → s.size = 20) : rc2 κ s = badM κ s := by
  unfold rc2 badM
  cases hk : κ == 3 with
  | false => rw [Bool.false_and, Bool.false_and]
  | true =>
    have := h hk
    rw [rn_eq (show 18 ≤ s.size by omega), Int.toNat_natCast]

set_option maxHeartbeats 4000000 in
set_option maxRecDepth 100000 in
theorem rcheck_pure (κ : Int) (s : ByteArray) : Pure Tryd.prog 21 [.val (.int .i64 κ), .val (.string s)] (.tup [.d (.val (.int .i64 (checkOut κ s).1)), .d (.val (.int .i64 (checkOut κ s).2))]) := by
  refine pure_fn (τ := tab) mixed tabI_ok Tryd.f21 Tryd.func21 (by kernel_rfl) rfl (by kernel_rfl) ?_
  have hhi := hi_le κ
  refine ⟨fun h => ?_, fun h => ?_⟩
  · have e : checkOut κ s = (0, 11) := by unfold checkOut; rw [show (decide (κ < 0) || decide (κ > 3)) = true from h]; rfl
    exact ends_ret (y := .tup [.d (.val (.int .i64 0)), .d (.val (.int .i64 11))]) (by rw [e]) (by kernel_rfl)
  have hκ : (decide (κ < 0) || decide (κ > 3)) = false := h
  clear h
  refine loopVC_intro (fun m st => ∃ (k : Nat) (i : Int), i = k ∧ k + m = min s.size (hiK κ) ∧ scan (rbad κ s) m k = scan (rbad κ s) (min s.size (hiK κ)) 0 ∧ st = ckSt κ s i) (min s.size (hiK κ)) (ckSt κ s 0)
     (weaker_of [0, 1, 6, 7, 8] (by kernel_rfl)) ⟨0, 0, rfl, by omega, rfl, rfl⟩ ?_
  rintro m st ⟨k, _, rfl, hk, hsc, rfl⟩
  refine ⟨fun h => ?_, fun h => ?_⟩
  · have hlt : k < s.size ∧ k < hiK κ := by
      have h : (decide ((k : Int) < (s.size : Int)) && decide ((k : Int) < (hiK κ : Int))) = true := h
      simp only [Bool.and_eq_true, decide_eq_true_eq] at h; omega
    clear h
    obtain ⟨m', rfl⟩ : ∃ m', m = m' + 1 := ⟨m - 1, by omega⟩
    have hib : (0 : Int) ≤ k ∧ (k : Int) < (s.size : Int) := ⟨by omega, by omega⟩
    refine ⟨hib, fun hb => ?_, fun hb => ?_⟩
    · have hbad : rbad κ s k = true := hb
      have e : checkOut κ s = ((k : Int), 3) := by
        unfold checkOut
        rw [hκ, ← hsc, scan, hbad]; rfl
      exact ends_ret (y := .tup [.d (.val (.int .i64 k)), .d (.val (.int .i64 3))]) (by rw [e]) (by kernel_rfl)
    · have hbad : rbad κ s k = false := hb
      exact ⟨m', ckSt κ s (IntKind.i64.wrap ((k : Int) + 1)), by omega, weaker_of [0, 1, 6, 7, 8] (by kernel_rfl), k + 1, _, i64_succ k (by omega), by omega, by rw [← hsc, scan, hbad]; rfl, rfl⟩
  · have hge : ¬ (k < s.size ∧ k < hiK κ) := fun hc => by
      have h : (decide ((k : Int) < (s.size : Int)) && decide ((k : Int) < (hiK κ : Int))) = false := h
      have e1 : decide ((k : Int) < (s.size : Int)) = true := by simp; omega
      have e2 : decide ((k : Int) < (hiK κ : Int)) = true := by simp; omega
      rw [e1, e2] at h; cases h
    clear h
    obtain rfl : m = 0 := by omega
    have hnone : scan (rbad κ s) (min s.size (hiK κ)) 0 = none := by rw [← hsc]; rfl
    refine ⟨fun h4 => ?_, fun h4 => ⟨fun h5 => ?_, fun h5 => ?_⟩⟩
    · have e : checkOut κ s = ((s.size : Int), 4) := by unfold checkOut; rw [hκ, hnone]; simp only [show decide ((s.size : Int) < loK κ) = true from h4, cond_true, cond_false]
      exact ends_ret (y := .tup [.d (.val (.int .i64 s.size)), .d (.val (.int .i64 4))]) (by rw [e]) (by kernel_rfl)
    · have e : checkOut κ s = ((hiK κ : Int), 5) := by unfold checkOut; rw [hκ, hnone]; simp only [show decide ((s.size : Int) < loK κ) = false from h4, show decide ((s.size : Int) > hiK κ) = true from h5, cond_true, cond_false]
      exact ends_ret (y := .tup [.d (.val (.int .i64 (hiK κ))), .d (.val (.int .i64 5))]) (by rw [e]) (by kernel_rfl)
    · have hmay : ∀ j, j < min s.size (hiK κ) → mayB κ j (byteAt s j) = true := fun j hj => by
        have := scan_none hnone j (Nat.zero_le j) (by omega)
        simpa [rbad] using this
      have hlo : ¬ (s.size : Int) < loK κ := of_decide_eq_false h4
      have hho : ¬ (s.size : Int) > hiK κ := of_decide_eq_false h5
      have efront : checkOut κ s = bif badL κ s then (11, 18) else bif badM κ s then (18, 18) else (0, 0) := by
        unfold checkOut
        rw [hκ, hnone]
        simp only [decide_eq_false hlo, decide_eq_false hho, cond_false]
      have f0 : (κ == 0) = true → s.size = 12 ∧ alnum s 11 ∧ digB (byteAt s 11) = true := fun h0 => by
        have h0' : κ = 0 := by simpa using h0
        subst h0'
        have e1 : loK 0 = 12 := rfl
        have e2 : hiK 0 = 12 := rfl
        rw [e1] at hlo; rw [e2] at hho hmay
        refine ⟨by omega, fun j hj => may_alnum (.inl rfl) (hmay j (by omega)), ?_⟩
        have := hmay 11 (by omega)
        rw [mayB_fl] at this
        simpa [flM, byFl] using this
      have f3 : (κ == 3) = true → s.size = 20 ∧ alnum s 18 := fun h0 => by
        have h0' : κ = 3 := by simpa using h0
        subst h0'
        have e1 : loK 3 = 20 := rfl
        have e2 : hiK 3 = 20 := rfl
        rw [e1] at hlo; rw [e2] at hho hmay
        exact ⟨by omega, fun j hj => may_alnum (.inr rfl) (hmay j (by omega))⟩
      have c1 := rc1_eq (κ := κ) (s := s) (fun h => ⟨(f0 h).1, (f0 h).2.2⟩)
      have c2 := rc2_eq (κ := κ) (s := s) (fun h => (f3 h).1)
      have g1 : (κ == 0) = true → (0 : Int) ≤ 11 ∧ (11 : Int) < (s.size : Int) := fun h => by have := (f0 h).1; omega
      have g2 : (κ == 0) = true → (0 : Int) ≤ 11 ∧ (11 : Int) ≤ (s.size : Int) := fun h => by have := (f0 h).1; omega
      have g3 : (κ == 0) = true → (s.extract 0 11).size ≤ 1000 := fun h => by have := (f0 h).1; rw [size_extract]; omega
      have g4 : (κ == 0) = true → alnum (s.extract 0 11) (s.extract 0 11).size := fun h => alnum_extract (by have := (f0 h).1; omega) (f0 h).2.1
      have k1 : (κ == 3) = true → (0 : Int) ≤ 18 ∧ (18 : Int) ≤ (s.size : Int) := fun h => by have := (f3 h).1; omega
      have hz : (rz s).size = (s.extract 0 18).size + 2 := size_append _ zz
      have k3 : (κ == 3) = true → (((s.extract 0 18).size + zz.size : Nat) : Int) ≤ IntKind.i64.max := fun h => by
        have := (f3 h).1
        rw [size_extract, show zz.size = 2 from rfl, show IntKind.i64.max = 9223372036854775807 from rfl]; omega
      have k4 : (κ == 3) = true → (rz s).size ≤ 1000 := fun h => by have := (f3 h).1; rw [hz, size_extract]; omega
      have k5 : (κ == 3) = true → alnum (rz s) (rz s).size := fun h => alnum_zz (alnum_extract (by have := (f3 h).1; omega) (f3 h).2)
      have k6 : (κ == 3) = true → 0 ≤ rn s ∧ rn s < 100 := fun h => by rw [rn_eq (by have := (f3 h).1; omega)]; omega
      refine ⟨g1, g2, g3, g4, fun hb => ?_, fun hb => ⟨k1, k1, k3, k4, k5, k6, fun hc => ?_, fun hc => ?_⟩⟩
      · have hb' : badL κ s = true := by rw [← c1]; exact hb
        exact ends_ret (y := .tup [.d (.val (.int .i64 11)), .d (.val (.int .i64 18))]) (by rw [efront, hb']; rfl) (by kernel_rfl)
      · have hb' : badL κ s = false := by rw [← c1]; exact hb
        have hc' : badM κ s = true := by rw [← c2]; exact hc
        exact ends_ret (y := .tup [.d (.val (.int .i64 18)), .d (.val (.int .i64 18))]) (by rw [efront, hb', hc']; rfl) (by kernel_rfl)
      · have hb' : badL κ s = false := by rw [← c1]; exact hb
        have hc' : badM κ s = false := by rw [← c2]; exact hc
        exact ends_ret (y := .tup [.d (.val (.int .i64 0)), .d (.val (.int .i64 0))]) (by rw [efront, hb', hc']; rfl) (by kernel_rfl)
end Go.Proofs.YtekifbnnkcgipaaDoor
