/- Plain laws of identifiers: what is accepted, one check digit alone, replaced and exchanged characters, prefixes; no walk. Conditions: none beyond those that are stated. -/
import Derived.Test.YtekifbnnkcgipaaDoorIdG
namespace Go.Proofs.YtekifbnnkcgipaaDoor
open Go.Sim

theorem scan_some {p : Nat → Bool} : ∀ {m k j : Nat}, scan p m k = some j → k ≤ j ∧ j < k + m ∧ p j = true ∧ ∀ i, k ≤ i → i < j → p i = false
  | 0, k, j, h => by cases h
  | m + 1, k, j, h => by
    simp only [scan] at h
    cases hp : p k with
    | true =>
      rw [hp] at h
      simp only [cond_true, Option.some.injEq] at h
      subst h
      exact ⟨Nat.le_refl _, by omega, hp, fun i h1 h2 => by omega⟩
    | false =>
      rw [hp] at h
      simp only [cond_false] at h
      obtain ⟨h1, h2, h3, h4⟩ := scan_some h
      refine ⟨by omega, by omega, h3, fun i i1 i2 => ?_⟩
      rcases Nat.eq_or_lt_of_le i1 with rfl | i3
      · exact hp
      · exact h4 i i3 i2
theorem scan_all {p : Nat → Bool} : ∀ {m k : Nat}, (∀ j, k ≤ j → j < k + m → p j = false) → scan p m k = none
  | 0, k, _ => rfl
  | m + 1, k, h => by
    simp only [scan]
    rw [h k (by omega) (by omega)]
    simp only [cond_false]
    exact scan_all fun j h1 h2 => h j (by omega) (by omega)
theorem scan_at {p : Nat → Bool} {j : Nat} (hj : p j = true) : ∀ {m k : Nat}, k ≤ j → j < k + m → (∀ i, k ≤ i → i < j → p i = false) → scan p m k = some j
  | 0, k, h1, h2, _ => by omega
  | m + 1, k, h1, h2, h3 => by
    simp only [scan]
    rcases Nat.eq_or_lt_of_le h1 with rfl | h4
    · rw [hj]; rfl
    · rw [h3 k (Nat.le_refl _) h4]
      simp only [cond_false]
      exact scan_at hj (by omega) (by omega) fun i i1 i2 => h3 i (by omega) i2

theorem out_of_range {κ : Int} (h : κ < 0 ∨ κ > 3) (s : ByteArray) : checkOut κ s = (0, 11) := by
  unfold checkOut
  rw [show (decide (κ < 0) || decide (κ > 3)) = true by simpa using h]; rfl
theorem in_range {κ : Int} (h0 : 0 ≤ κ) (h3 : κ ≤ 3) : (decide (κ < 0) || decide (κ > 3)) = false := by
  rw [decide_eq_false (by omega), decide_eq_false (by omega)]; rfl

theorem valid_iff {κ : Int} (h0 : 0 ≤ κ) (h3 : κ ≤ 3) (s : ByteArray) :
    (checkOut κ s).2 = 0 ↔ (loK κ ≤ s.size ∧ s.size ≤ hiK κ ∧ (∀ k : Nat, k < s.size → mayB κ k (byteAt s k) = true) ∧ badL κ s = false ∧ badM κ s = false) := by
  unfold checkOut
  rw [in_range h0 h3]
  simp only [cond_false]
  constructor
  · intro h
    cases hs : scan (rbad κ s) (min s.size (hiK κ)) 0 with
    | some k => rw [hs] at h; cases h
    | none =>
      rw [hs] at h
      simp only at h
      cases h4 : decide ((s.size : Int) < loK κ) with
      | true => rw [h4] at h; cases h
      | false =>
        rw [h4] at h
        simp only [cond_false] at h
        cases h5 : decide ((s.size : Int) > hiK κ) with
        | true => rw [h5] at h; cases h
        | false =>
          rw [h5] at h
          simp only [cond_false] at h
          have h4 := of_decide_eq_false h4
          have h5 := of_decide_eq_false h5
          cases hL : badL κ s with
          | true => rw [hL] at h; cases h
          | false =>
            rw [hL] at h
            simp only [cond_false] at h
            cases hM : badM κ s with
            | true => rw [hM] at h; cases h
            | false =>
              refine ⟨by omega, by omega, fun k hk => ?_, rfl, rfl⟩
              have := scan_none hs k (Nat.zero_le k) (by omega)
              simpa [rbad] using this
  · rintro ⟨h1, h2, h3, hL, hM⟩
    rw [scan_all (fun j _ hj => by unfold rbad; rw [h3 j (by omega)]; rfl), decide_eq_false (by omega), decide_eq_false (by omega), hL, hM]
    rfl

theorem toList_two {s t : ByteArray} (hs : s.size = 2) (ht : t.size = 2) : s.toList = t.toList ↔ (byteAt s 0 = byteAt t 0 ∧ byteAt s 1 = byteAt t 1) := by
  obtain ⟨⟨l⟩⟩ := s
  obtain ⟨⟨m⟩⟩ := t
  rw [ByteArray.toList_eq, ByteArray.toList_eq]
  have hs : l.length = 2 := hs
  have ht : m.length = 2 := ht
  match l, m, hs, ht with
  | [a, b], [c, d], _, _ =>
    have e : ∀ x y : UInt8, ((x.toNat : Int) = (y.toNat : Int)) ↔ x = y := fun x y => by
      rw [Int.natCast_inj]; exact UInt8.toNat_inj
    show [a, b] = [c, d] ↔ _
    have e1 : byteAt ⟨⟨[a, b]⟩⟩ 0 = (a.toNat : Int) := rfl
    have e2 : byteAt ⟨⟨[a, b]⟩⟩ 1 = (b.toNat : Int) := rfl
    have e3 : byteAt ⟨⟨[c, d]⟩⟩ 0 = (c.toNat : Int) := rfl
    have e4 : byteAt ⟨⟨[c, d]⟩⟩ 1 = (d.toNat : Int) := rfl
    rw [e1, e2, e3, e4, e, e]
    simp

/-- An ISIN. -/
theorem isin_iff (s : ByteArray) : (checkOut 0 s).2 = 0 ↔ (s.size = 12 ∧ (∀ k : Nat, k < 12 → mayB 0 k (byteAt s k) = true) ∧ byteAt s 11 = 48 + ((luhnD (exps s 11) : Nat) : Int)) := by
  rw [valid_iff (by decide) (by decide)]
  have e1 : loK 0 = 12 := rfl
  have e2 : hiK 0 = 12 := rfl
  have e3 : badM 0 s = false := by unfold badM; rw [show ((0 : Int) == 3) = false from rfl, Bool.false_and]
  have e4 : badL 0 s = !(byteAt s 11 == 48 + ((luhnD (exps s 11) : Nat) : Int)) := by unfold badL; rw [show ((0 : Int) == 0) = true from rfl, Bool.true_and]
  rw [e1, e2, e3, e4]
  generalize 48 + ((luhnD (exps s 11) : Nat) : Int) = y
  constructor
  · rintro ⟨a, b, c, d, _⟩
    refine ⟨by omega, fun k hk => c k (by omega), by simpa using d⟩
  · rintro ⟨a, b, c⟩
    exact ⟨by omega, by omega, fun k hk => b k (by omega), by simpa using c, rfl⟩
/-- An LEI. -/
theorem lei_iff (s : ByteArray) : (checkOut 3 s).2 = 0 ↔ (s.size = 20 ∧ (∀ k : Nat, k < 20 → mayB 3 k (byteAt s k) = true) ∧
    byteAt s 18 = 48 + (((98 - m97 (exps s 18 ++ [0, 0])) / 10 : Nat) : Int) ∧ byteAt s 19 = 48 + (((98 - m97 (exps s 18 ++ [0, 0])) % 10 : Nat) : Int)) := by
  rw [valid_iff (by decide) (by decide)]
  have e1 : loK 3 = 20 := rfl
  have e2 : hiK 3 = 20 := rfl
  have e3 : badL 3 s = false := by unfold badL; rw [show ((3 : Int) == 0) = false from rfl, Bool.false_and]
  have e4 : badM 3 s = !((s.extract 18 s.size).toList == (pairStr (98 - m97 (exps s 18 ++ [0, 0]))).toList) := by unfold badM; rw [show ((3 : Int) == 3) = true from rfl, Bool.true_and]
  have hp : 98 - m97 (exps s 18 ++ [0, 0]) < 100 := by omega
  rw [e1, e2, e3, e4]
  generalize 98 - m97 (exps s 18 ++ [0, 0]) = p at hp
  have key : s.size = 20 → ((!((s.extract 18 s.size).toList == (pairStr p).toList)) = false ↔ (byteAt s 18 = 48 + ((p / 10 : Nat) : Int) ∧ byteAt s 19 = 48 + ((p % 10 : Nat) : Int))) := fun hs => by
    rw [Bool.not_eq_false', beq_iff_eq, toList_two (by rw [size_extract]; omega) (by unfold pairStr; rw [digStr_size]; rfl),
      byteAt_extract (Nat.le_refl _) (by omega), byteAt_extract (Nat.le_refl _) (by omega)]
    unfold pairStr
    rw [digStr_at (by intro d hd; simp at hd; omega) (by simp), digStr_at (by intro d hd; simp at hd; omega) (by simp)]
    rfl
  constructor
  · rintro ⟨a, b, c, _, d⟩
    have hs : s.size = 20 := by omega
    obtain ⟨d1, d2⟩ := (key hs).1 d
    exact ⟨hs, fun k hk => c k (by omega), d1, d2⟩
  · rintro ⟨a, b, c, d⟩
    exact ⟨by omega, by omega, fun k hk => b k (by omega), rfl, (key a).2 ⟨c, d⟩⟩

theorem begins_iff {κ : Int} {n : Nat} (s : ByteArray) : beginsOut κ n s = 0 ↔ (s.size = n ∧ ∀ k : Nat, k < n → mayB κ k (byteAt s k) = true) := by
  refine ⟨begins_ok, fun ⟨h1, h2⟩ => ?_⟩
  unfold beginsOut
  rw [scan_all (fun j _ hj => by unfold rbad; rw [h2 j (by omega)]; rfl), decide_eq_false (by omega), decide_eq_false (by omega)]
  rfl

theorem may0_last {c : Int} : mayB 0 11 c = digB c := by
  have := mayB_fl 0 11 c
  rw [show ((11 : Nat) : Int) = 11 from rfl] at this
  rw [this]; simp [flM, byFl]
theorem may3_last {k : Nat} (h : 18 ≤ k) {c : Int} : mayB 3 k c = digB c := by
  have := mayB_fl 3 k c
  rw [this]
  have e : decide ((k : Int) < 18) = false := by simp; omega
  simp [flM, byFl, e]
theorem digB_small {d : Nat} (h : d < 10) : digB (48 + (d : Int)) = true := by rw [digB_iff]; omega

theorem byteAt_digStr1 {d : Nat} (h : d < 10) : byteAt (digStr [d]) 0 = 48 + (d : Int) := by
  rw [digStr_at (by intro e he; simp at he; omega) (by simp)]; rfl
theorem byteAt_pair0 {d : Nat} (h : d < 100) : byteAt (pairStr d) 0 = 48 + ((d / 10 : Nat) : Int) := by
  unfold pairStr
  rw [digStr_at (by intro e he; simp at he; omega) (by simp)]; rfl
theorem byteAt_pair1 {d : Nat} (h : d < 100) : byteAt (pairStr d) 1 = 48 + ((d % 10 : Nat) : Int) := by
  unfold pairStr
  rw [digStr_at (by intro e he; simp at he; omega) (by simp)]; rfl

/-- One digit behind a string makes an ISIN if and only if it is the check digit of eleven permitted characters. -/
theorem isin_one (s : ByteArray) {d : Nat} (hd : d < 10) : validB 0 (s ++ digStr [d]) = (beginsOut 0 11 s == 0 && d == luhnD (exps s 11)) := by
  have hsz : (s ++ digStr [d]).size = s.size + 1 := by rw [size_append, digStr_size]; rfl
  rw [Bool.eq_iff_iff, Bool.and_eq_true, beq_iff_eq, beq_iff_eq, begins_iff]
  unfold validB
  rw [beq_iff_eq, isin_iff, hsz]
  have hb : s.size = 11 → byteAt (s ++ digStr [d]) 11 = 48 + (d : Int) := fun hs => by
    have := byteAt_append_right (s := s) (t := digStr [d]) (k := 0)
    rw [Nat.add_zero, hs, byteAt_digStr1 hd] at this
    exact this
  have he : s.size = 11 → exps (s ++ digStr [d]) 11 = exps s 11 := fun hs => exps_congr fun k hk => byteAt_append_left (by omega)
  constructor
  · rintro ⟨a, b, c⟩
    have hs : s.size = 11 := by omega
    rw [hb hs, he hs] at c
    refine ⟨⟨hs, fun k hk => ?_⟩, by omega⟩
    rw [← byteAt_append_left (t := digStr [d]) (by omega)]
    exact b k (by omega)
  · rintro ⟨⟨hs, b⟩, c⟩
    refine ⟨by omega, fun k hk => ?_, by rw [hb hs, he hs, ← c]⟩
    rcases Nat.lt_or_ge k 11 with h | h
    · rw [byteAt_append_left (by omega)]; exact b k h
    · obtain rfl : k = 11 := by omega
      rw [hb hs]
      exact may0_last.trans (digB_small hd)
/-- The same of an LEI. -/
theorem lei_one (s : ByteArray) {d : Nat} (hd : d < 100) : validB 3 (s ++ pairStr d) = (beginsOut 3 18 s == 0 && d == 98 - m97 (exps s 18 ++ [0, 0])) := by
  have hsz : (s ++ pairStr d).size = s.size + 2 := by rw [size_append]; unfold pairStr; rw [digStr_size]; rfl
  rw [Bool.eq_iff_iff, Bool.and_eq_true, beq_iff_eq, beq_iff_eq, begins_iff]
  unfold validB
  rw [beq_iff_eq, lei_iff, hsz]
  have hb0 : s.size = 18 → byteAt (s ++ pairStr d) 18 = 48 + ((d / 10 : Nat) : Int) := fun hs => by
    have := byteAt_append_right (s := s) (t := pairStr d) (k := 0)
    rw [Nat.add_zero, hs, byteAt_pair0 hd] at this
    exact this
  have hb1 : s.size = 18 → byteAt (s ++ pairStr d) 19 = 48 + ((d % 10 : Nat) : Int) := fun hs => by
    have := byteAt_append_right (s := s) (t := pairStr d) (k := 1)
    rw [hs, byteAt_pair1 hd] at this
    exact this
  have he : s.size = 18 → exps (s ++ pairStr d) 18 = exps s 18 := fun hs => exps_congr fun k hk => byteAt_append_left (by omega)
  constructor
  · rintro ⟨a, b, c1, c2⟩
    have hs : s.size = 18 := by omega
    rw [hb0 hs, he hs] at c1
    rw [hb1 hs, he hs] at c2
    refine ⟨⟨hs, fun k hk => ?_⟩, by omega⟩
    rw [← byteAt_append_left (t := pairStr d) (by omega)]
    exact b k (by omega)
  · rintro ⟨⟨hs, b⟩, c⟩
    refine ⟨by omega, fun k hk => ?_, by rw [hb0 hs, he hs, ← c], by rw [hb1 hs, he hs, ← c]⟩
    rcases Nat.lt_or_ge k 18 with h | h
    · rw [byteAt_append_left (by omega)]; exact b k h
    · rw [may3_last h]
      have : k = 18 ∨ k = 19 := by omega
      rcases this with rfl | rfl
      · rw [hb0 hs]; exact digB_small (by omega)
      · rw [hb1 hs]; exact digB_small (by omega)

/-- Two strings that agree but at place i. -/
def agreeBut (s t : ByteArray) (i : Nat) : Prop := ∀ k, k ≠ i → byteAt s k = byteAt t k
theorem exps_but {s t : ByteArray} {i : Nat} (h : agreeBut s t i) : ∀ m, ∃ T, exps s (i + 1 + m) = exps s i ++ expF (byteAt s i) ++ T ∧ exps t (i + 1 + m) = exps s i ++ expF (byteAt t i) ++ T
  | 0 => ⟨[], by simp [exps], by rw [List.append_nil, Nat.add_zero, exps, exps_congr (s := t) (t := s) fun k hk => (h k (by omega)).symm]⟩
  | m + 1 => by
    obtain ⟨T, h1, h2⟩ := exps_but h m
    refine ⟨T ++ expF (byteAt s (i + 1 + m)), ?_, ?_⟩
    · rw [show i + 1 + (m + 1) = (i + 1 + m) + 1 from rfl, exps, h1, List.append_assoc]
    · rw [show i + 1 + (m + 1) = (i + 1 + m) + 1 from rfl, exps, h2, ← h (i + 1 + m) (by omega), List.append_assoc]
/-- Two strings that agree but at places i and i + 1. -/
theorem exps_but2 {s t : ByteArray} {i : Nat} (h : ∀ k, k ≠ i → k ≠ i + 1 → byteAt s k = byteAt t k) : ∀ m, ∃ T, exps s (i + 2 + m) = exps s i ++ (expF (byteAt s i) ++ expF (byteAt s (i + 1))) ++ T ∧
    exps t (i + 2 + m) = exps s i ++ (expF (byteAt t i) ++ expF (byteAt t (i + 1))) ++ T
  | 0 => ⟨[], by simp [exps], by
      rw [List.append_nil, Nat.add_zero, exps, exps, exps_congr (s := t) (t := s) fun k hk => (h k (by omega) (by omega)).symm, List.append_assoc]⟩
  | m + 1 => by
    obtain ⟨T, h1, h2⟩ := exps_but2 h m
    refine ⟨T ++ expF (byteAt s (i + 2 + m)), ?_, ?_⟩
    · rw [show i + 2 + (m + 1) = (i + 2 + m) + 1 from rfl, exps, h1, List.append_assoc]
    · rw [show i + 2 + (m + 1) = (i + 2 + m) + 1 from rfl, exps, h2, ← h (i + 2 + m) (by omega) (by omega), List.append_assoc]

theorem expF_dig {c : Int} (h : digB c = true) : expF c = [(c - 48).toNat] := by unfold expF; rw [h]; rfl
theorem expF_let {c : Int} (h : letB c = true) : expF c = [((c - 65).toNat + 10) / 10, ((c - 65).toNat + 10) % 10] := by
  have h' := (letB_iff c).1 h
  have hd : digB c = false := by
    cases e : digB c with
    | false => rfl
    | true => rw [digB_iff] at e; omega
  unfold expF; rw [hd]; rfl

theorem m97_mod (x y t : Nat) (h : (10 ^ t * x) % 97 = (10 ^ t * y) % 97) : x % 97 = y % 97 := by
  induction t generalizing x y with
  | zero => simpa using h
  | succ t ih =>
    rw [Nat.pow_succ, Nat.mul_assoc, Nat.mul_assoc] at h
    have := ih _ _ h
    omega
theorem mod_in (q x c : Nat) : (q * (x % 97) + c) % 97 = (q * x + c) % 97 := by
  rw [Nat.add_mod, Nat.mul_mod, Nat.mod_mod, ← Nat.mul_mod, ← Nat.add_mod]
theorem m97_app : ∀ m : List Nat, ∃ c, ∀ l : List Nat, m97 (l ++ m) = (10 ^ m.length * m97 l + c) % 97
  | [] => ⟨0, fun l => by have := m97_lt l; simp; omega⟩
  | d :: m => by
    obtain ⟨c, hc⟩ := m97_app m
    refine ⟨10 ^ m.length * d + c, fun l => ?_⟩
    rw [show l ++ d :: m = (l ++ [d]) ++ m by simp, hc, m97_push, mod_in, List.length_cons, Nat.pow_succ, Nat.mul_add, Nat.mul_assoc, Nat.add_assoc]
/-- What stands behind may be struck. -/
theorem m97_cancel {l l' m : List Nat} (h : m97 (l ++ m) = m97 (l' ++ m)) : m97 l = m97 l' := by
  obtain ⟨c, hc⟩ := m97_app m
  rw [hc, hc] at h
  have h1 := m97_lt l
  have h2 := m97_lt l'
  have : (10 ^ m.length * m97 l) % 97 = (10 ^ m.length * m97 l') % 97 := by
    generalize 10 ^ m.length * m97 l = a at h
    generalize 10 ^ m.length * m97 l' = b at h
    omega
  have := m97_mod _ _ _ this
  omega
theorem m97_two (l : List Nat) (a b : Nat) : m97 (l ++ [a, b]) = (100 * m97 l + 10 * a + b) % 97 := by
  rw [show l ++ [a, b] = (l ++ [a]) ++ [b] by simp, m97_push, m97_push]; omega

/-- All twenty characters of an LEI leave the remainder 1. -/
theorem lei_rest {s : ByteArray} (h : (checkOut 3 s).2 = 0) : m97 (exps s 20) = 1 := by
  obtain ⟨h1, h2, h3, h4⟩ := (lei_iff s).1 h
  have hm := m97_lt (exps s 18 ++ [0, 0])
  have e : exps s 20 = exps s 18 ++ [(98 - m97 (exps s 18 ++ [0, 0])) / 10, (98 - m97 (exps s 18 ++ [0, 0])) % 10] := by
    rw [show (20 : Nat) = 18 + 1 + 1 from rfl, exps, exps, h3, h4, expF_dig (digB_small (by omega)), expF_dig (digB_small (by omega)), List.append_assoc]
    generalize 98 - m97 (exps s 18 ++ [0, 0]) = p
    have a1 : (48 + ((p / 10 : Nat) : Int) - 48).toNat = p / 10 := by omega
    have a2 : (48 + ((p % 10 : Nat) : Int) - 48).toNat = p % 10 := by omega
    rw [a1, a2]; rfl
  rw [e, m97_two]
  have := m97_two (exps s 18) 0 0
  generalize m97 (exps s 18 ++ [0, 0]) = r at *
  omega

/-- A replaced character of an LEI is detected. -/
theorem lei_replaced {s t : ByteArray} {i : Nat} (hi : i < 20) (h : agreeBut s t i) (hs : (checkOut 3 s).2 = 0)
    (hc : (digB (byteAt s i) = true ∧ digB (byteAt t i) = true) ∨ (letB (byteAt s i) = true ∧ letB (byteAt t i) = true)) (hne : byteAt s i ≠ byteAt t i) : (checkOut 3 t).2 ≠ 0 := by
  intro ht
  have h1 := lei_rest hs
  have h2 := lei_rest ht
  obtain ⟨T, e1, e2⟩ := exps_but h (19 - i)
  rw [show i + 1 + (19 - i) = 20 by omega] at e1 e2
  rw [e1] at h1
  rw [e2] at h2
  have h3 := m97_cancel (h2.trans h1.symm)
  rcases hc with ⟨a, b⟩ | ⟨a, b⟩
  · rw [expF_dig a, expF_dig b, m97_push, m97_push] at h3
    have a := (digB_iff _).1 a
    have b := (digB_iff _).1 b
    omega
  · rw [expF_let a, expF_let b, m97_two, m97_two] at h3
    have a := (letB_iff _).1 a
    have b := (letB_iff _).1 b
    omega
/-- Two exchanged digits of an LEI are detected. -/
theorem lei_exchanged {s t : ByteArray} {i : Nat} (hi : i + 1 < 20) (h : ∀ k, k ≠ i → k ≠ i + 1 → byteAt s k = byteAt t k) (hs : (checkOut 3 s).2 = 0)
    (ha : digB (byteAt s i) = true) (hb : digB (byteAt s (i + 1)) = true) (e0 : byteAt t i = byteAt s (i + 1)) (e1 : byteAt t (i + 1) = byteAt s i) (hne : byteAt s i ≠ byteAt s (i + 1)) : (checkOut 3 t).2 ≠ 0 := by
  intro ht
  have h1 := lei_rest hs
  have h2 := lei_rest ht
  obtain ⟨T, f1, f2⟩ := exps_but2 h (18 - i)
  rw [show i + 2 + (18 - i) = 20 by omega] at f1 f2
  rw [f1] at h1
  rw [f2] at h2
  have h3 := m97_cancel (h2.trans h1.symm)
  rw [e0, e1, expF_dig ha, expF_dig hb] at h3
  simp only [List.singleton_append] at h3
  rw [m97_two, m97_two] at h3
  have ha := (digB_iff _).1 ha
  have hb := (digB_iff _).1 hb
  omega

theorem lsum_but {l l' : List Nat} (hl : l.length = l'.length) {q : Nat} (hq : q < l.length) (h : ∀ k, k ≠ q → l.getD k 0 = l'.getD k 0) :
    ∀ k, k ≤ l.length → lsum l k + (if l.length - 1 - q < k then lw (l.length - 1 - q) (l'.getD q 0) else 0) = lsum l' k + (if l.length - 1 - q < k then lw (l.length - 1 - q) (l.getD q 0) else 0)
  | 0, _ => by simp [lsum]
  | k + 1, hk => by
    have ih := lsum_but hl hq h k (by omega)
    simp only [lsum]
    rw [← hl]
    by_cases e : l.length - 1 - k = q
    · have e' : l.length - 1 - q = k := by omega
      rw [e, e', if_pos (by omega), if_pos (by omega)]
      rw [e', if_neg (by omega), if_neg (by omega)] at ih
      omega
    · rw [h _ e]
      by_cases e2 : l.length - 1 - q < k
      · rw [if_pos (by omega), if_pos (by omega)]
        rw [if_pos e2, if_pos e2] at ih
        omega
      · rw [if_neg (by omega), if_neg (by omega)]
        rw [if_neg e2, if_neg e2] at ih
        omega
theorem lw_inj {j d e : Nat} (hd : d < 10) (he : e < 10) (h : lw j d % 10 = lw j e % 10) : d = e := by
  unfold lw at h
  by_cases hj : j % 2 = 0
  · rw [if_pos hj, if_pos hj] at h; omega
  · rw [if_neg hj, if_neg hj] at h; omega
theorem luhn_but {A T : List Nat} {d e : Nat} (hd : d < 10) (he : e < 10) (h : luhnD (A ++ [d] ++ T) = luhnD (A ++ [e] ++ T)) : d = e := by
  have hl : (A ++ [d] ++ T).length = (A ++ [e] ++ T).length := by simp
  have hg : ∀ x : Nat, (A ++ [x] ++ T).getD A.length 0 = x := fun x => by simp [List.getD_eq_getElem?_getD]
  have hb := lsum_but hl (q := A.length) (by simp) (fun k hk => by
    rw [List.append_assoc, List.append_assoc, List.getD_eq_getElem?_getD, List.getD_eq_getElem?_getD]
    by_cases hlt : k < A.length
    · rw [List.getElem?_append_left hlt, List.getElem?_append_left hlt]
    · obtain ⟨m, hm⟩ : ∃ m, k - A.length = m + 1 := ⟨k - A.length - 1, by omega⟩
      rw [List.getElem?_append_right (l₁ := A) (by omega), List.getElem?_append_right (l₁ := A) (by omega), hm]; simp) _ (Nat.le_refl _)
  have hlen : (A ++ [d] ++ T).length = A.length + 1 + T.length := by simp; omega
  rw [if_pos (by omega), if_pos (by omega), hg, hg] at hb
  unfold luhnD at h
  rw [← hl] at h
  have hm : lw ((A ++ [d] ++ T).length - 1 - A.length) d % 10 = lw ((A ++ [d] ++ T).length - 1 - A.length) e % 10 := by
    generalize lsum (A ++ [d] ++ T) (A ++ [d] ++ T).length = x at *
    generalize lsum (A ++ [e] ++ T) (A ++ [d] ++ T).length = y at *
    generalize lw ((A ++ [d] ++ T).length - 1 - A.length) d = u at *
    generalize lw ((A ++ [d] ++ T).length - 1 - A.length) e = v at *
    omega
  exact lw_inj hd he hm

/-- A replaced digit of an ISIN is detected. -/
theorem isin_replaced {s t : ByteArray} {i : Nat} (hi : i < 12) (h : agreeBut s t i) (hs : (checkOut 0 s).2 = 0) (ha : digB (byteAt s i) = true) (hb : digB (byteAt t i) = true) (hne : byteAt s i ≠ byteAt t i) : (checkOut 0 t).2 ≠ 0 := by
  intro ht
  obtain ⟨_, _, h1⟩ := (isin_iff s).1 hs
  obtain ⟨_, _, h2⟩ := (isin_iff t).1 ht
  rcases Nat.lt_or_ge i 11 with hlt | hge
  · obtain ⟨T, e1, e2⟩ := exps_but h (10 - i)
    rw [show i + 1 + (10 - i) = 11 by omega] at e1 e2
    rw [← h 11 (by omega), h1, e1, e2, expF_dig ha, expF_dig hb] at h2
    have ha := (digB_iff _).1 ha
    have hb := (digB_iff _).1 hb
    have h3 := luhn_but (A := exps s i) (T := T) (d := (byteAt s i - 48).toNat) (e := (byteAt t i - 48).toNat) (by omega) (by omega) (by omega)
    omega
  · obtain rfl : i = 11 := by omega
    have e : exps t 11 = exps s 11 := exps_congr fun k hk => (h k (by omega)).symm
    rw [e, ← h1] at h2
    exact hne h2.symm

/-- An offset with ErrFormat: it lies in the string, and what stands behind it does not matter. -/
theorem prefix_format {κ : Int} {s : ByteArray} (h : (checkOut κ s).2 = 3) : ∃ k : Nat, (checkOut κ s).1 = k ∧ k < s.size ∧ ∀ t : ByteArray, k < t.size → (∀ j, j ≤ k → byteAt t j = byteAt s j) → checkOut κ t = ((k : Int), 3) := by
  by_cases hr : κ < 0 ∨ κ > 3
  · rw [out_of_range hr] at h; cases h
  have hin := in_range (κ := κ) (by omega) (by omega)
  unfold checkOut at h
  rw [hin] at h
  simp only [cond_false] at h
  cases hs : scan (rbad κ s) (min s.size (hiK κ)) 0 with
  | some k =>
    obtain ⟨h1, h2, h3, h4⟩ := scan_some hs
    refine ⟨k, ?_, by omega, fun t ht htj => ?_⟩
    · unfold checkOut
      rw [hin, hs]; rfl
    · unfold checkOut
      rw [hin, scan_at (p := rbad κ t) (j := k) ?_ (Nat.zero_le _) (by omega) ?_]
      · rfl
      · unfold rbad; rw [htj k (Nat.le_refl _)]; exact h3
      · intro i h5 h6
        unfold rbad; rw [htj i (by omega)]; exact h4 i h5 h6
  | none =>
    rw [hs] at h
    simp only at h
    cases h4 : decide ((s.size : Int) < loK κ) with
    | true => rw [h4] at h; cases h
    | false =>
      rw [h4] at h
      simp only [cond_false] at h
      cases h5 : decide ((s.size : Int) > hiK κ) with
      | true => rw [h5] at h; cases h
      | false =>
        rw [h5] at h
        simp only [cond_false] at h
        cases hL : badL κ s with
        | true => rw [hL] at h; cases h
        | false =>
          rw [hL] at h
          simp only [cond_false] at h
          cases hM : badM κ s with
          | true => rw [hM] at h; cases h
          | false => rw [hM] at h; cases h
/-- An identifier without its last byte. -/
theorem prefix_short {κ : Int} {s : ByteArray} (h : (checkOut κ s).2 = 0) : 1 ≤ s.size ∧ ∀ t : ByteArray, t.size = s.size - 1 → (∀ j, j < t.size → byteAt t j = byteAt s j) → checkOut κ t = (0, 0) ∨ checkOut κ t = (((s.size - 1 : Nat) : Int), 4) := by
  by_cases hr : κ < 0 ∨ κ > 3
  · rw [out_of_range hr] at h; cases h
  obtain ⟨h1, h2, h3, _, _⟩ := (valid_iff (by omega) (by omega) s).1 h
  have hlo : 1 ≤ loK κ := by unfold loK; cases κ == 0 <;> cases κ == 1 <;> cases κ == 2 <;> simp
  refine ⟨by omega, fun t ht htj => ?_⟩
  have hin := in_range (κ := κ) (by omega) (by omega)
  unfold checkOut
  rw [hin, scan_all (fun j _ hj => by unfold rbad; rw [htj j (by omega), h3 j (by omega)]; rfl)]
  simp only [cond_false]
  by_cases hlt : (t.size : Int) < loK κ
  · rw [decide_eq_true hlt, ht]; exact .inr rfl
  · rw [decide_eq_false hlt, decide_eq_false (show ¬ (t.size : Int) > hiK κ by omega)]
    have hκ : κ ≠ 0 ∧ κ ≠ 3 := by
      constructor
      · rintro rfl
        have e1 : loK 0 = 12 := rfl
        have e2 : hiK 0 = 12 := rfl
        rw [e1] at hlt; rw [e2] at h2; omega
      · rintro rfl
        have e1 : loK 3 = 20 := rfl
        have e2 : hiK 3 = 20 := rfl
        rw [e1] at hlt; rw [e2] at h2; omega
    have e1 : badL κ t = false := by unfold badL; rw [show (κ == 0) = false from beq_false_of_ne hκ.1, Bool.false_and]
    have e2 : badM κ t = false := by unfold badM; rw [show (κ == 3) = false from beq_false_of_ne hκ.2, Bool.false_and]
    rw [e1, e2]
    exact .inl rfl
end Go.Proofs.YtekifbnnkcgipaaDoor
