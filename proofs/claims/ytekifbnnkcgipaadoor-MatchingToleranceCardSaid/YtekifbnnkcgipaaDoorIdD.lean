/- Contracts of the reference's ISIN, LEI and Check. Conditions: at most 1000 bytes. -/
import Derived.Test.YtekifbnnkcgipaaDoorIdC
namespace Go.Proofs.YtekifbnnkcgipaaDoor
open Go.Sim

theorem scan_none {p : Nat → Bool} : ∀ {m k : Nat}, scan p m k = none → ∀ j, k ≤ j → j < k + m → p j = false
  | 0, k, _, j, h1, h2 => by omega
  | m + 1, k, h, j, h1, h2 => by
    simp only [scan] at h
    cases hp : p k with
    | true => rw [hp] at h; cases h
    | false =>
      rw [hp] at h
      rcases Nat.eq_or_lt_of_le h1 with rfl | h3
      · exact hp
      · exact scan_none h j h3 (by omega)
theorem scan_congr {p q : Nat → Bool} : ∀ {m k : Nat}, (∀ j, k ≤ j → j < k + m → p j = q j) → scan p m k = scan q m k
  | 0, _, _ => rfl
  | m + 1, k, h => by
    simp only [scan]
    rw [h k (by omega) (by omega), scan_congr fun j h1 h2 => h j (by omega) (by omega)]
/-- Where p is false from place n on, the scan may stop there. -/
theorem scan_cut {p : Nat → Bool} {n : Nat} (h : ∀ j, n ≤ j → p j = false) : ∀ m k, scan p m k = scan p (min m (n - k)) k
  | 0, k => by simp [scan]
  | m + 1, k => by
    rcases Nat.lt_or_ge k n with hk | hk
    · rw [show min (m + 1) (n - k) = min m (n - (k + 1)) + 1 by omega]
      simp only [scan]
      rw [← scan_cut h m (k + 1)]
    · rw [show min (m + 1) (n - k) = 0 by omega]
      simp only [scan]
      rw [h k hk, scan_cut h m (k + 1), show min m (n - (k + 1)) = 0 by omega]
      rfl

theorem may_alnum {κ : Int} (hκ : κ = 0 ∨ κ = 3) {k : Nat} {c : Int} (h : mayB κ k c = true) : digB c = true ∨ letB c = true := by
  rw [mayB_fl] at h
  rcases hκ with rfl | rfl
  · simp only [flM, byFl, beq_self_eq_true, cond_true, Bool.or_eq_true, Bool.and_eq_true] at h
    rcases h with (h | h) | h
    · exact .inr h.2
    · exact .inl h.2
    · cases h.1
  · simp only [flM, byFl, show ((3 : Int) == 0) = false from rfl, show ((3 : Int) == 1) = false from rfl, show ((3 : Int) == 2) = false from rfl, cond_false, Bool.or_eq_true, Bool.and_eq_true] at h
    rcases h with (h | h) | h
    · exact .inr h.2
    · exact .inl h.2
    · cases h.1

theorem byteAt_append_left {s t : ByteArray} {k : Nat} (h : k < s.size) : byteAt (s ++ t) k = byteAt s k := by
  unfold byteAt
  rw [Array.getD_eq_getD_getElem?, Array.getD_eq_getD_getElem?, ByteArray.data_append, Array.getElem?_append_left h]
theorem byteAt_append_right {s t : ByteArray} {k : Nat} : byteAt (s ++ t) (s.size + k) = byteAt t k := by
  unfold byteAt
  rw [Array.getD_eq_getD_getElem?, Array.getD_eq_getD_getElem?, ByteArray.data_append]
  rw [show s.size + k = s.data.size + k from rfl, Array.getElem?_append_right (Nat.le_add_right _ _)]
  rw [Nat.add_sub_cancel_left]
theorem exps_congr {s t : ByteArray} : ∀ {n : Nat}, (∀ k, k < n → byteAt s k = byteAt t k) → exps s n = exps t n
  | 0, _ => rfl
  | n + 1, h => by rw [exps, exps, h n (by omega), exps_congr fun k hk => h k (by omega)]
theorem size_append (s t : ByteArray) : (s ++ t).size = s.size + t.size := by simp
def zz : ByteArray := ⟨#[48, 48]⟩
theorem exps_zz (s : ByteArray) : exps (s ++ zz) (s.size + 2) = exps s s.size ++ [0, 0] := by
  rw [show s.size + 2 = (s.size + 1) + 1 from rfl, exps, exps, exps_congr (s := s ++ zz) (t := s) fun k hk => byteAt_append_left hk, byteAt_append_right (s := s) (t := zz) (k := 1)]
  have h0 := byteAt_append_right (s := s) (t := zz) (k := 0)
  rw [Nat.add_zero] at h0
  rw [h0, List.append_assoc]
  rfl
theorem alnum_zz {s : ByteArray} (h : alnum s s.size) : alnum (s ++ zz) (s ++ zz).size := by
  intro k hk
  rw [size_append] at hk
  have hz : zz.size = 2 := rfl
  rcases Nat.lt_or_ge k s.size with h1 | h1
  · rw [byteAt_append_left h1]; exact h k h1
  · obtain ⟨j, rfl⟩ : ∃ j, k = s.size + j := ⟨k - s.size, by omega⟩
    rw [byteAt_append_right]
    have : j = 0 ∨ j = 1 := by omega
    rcases this with rfl | rfl <;> exact .inl rfl

theorem begins_ok {κ : Int} {n : Nat} {s : ByteArray} (h : beginsOut κ n s = 0) : s.size = n ∧ ∀ k, k < n → mayB κ k (byteAt s k) = true := by
  unfold beginsOut at h
  split at h
  · cases h
  · rename_i hs
    have h4 : ¬ (s.size : Int) < n := fun hc => by simp [hc] at h
    have h5 : ¬ (s.size : Int) > n := fun hc => by
      rw [decide_eq_false h4, decide_eq_true hc] at h
      cases h
    have hsz : s.size = n := by omega
    refine ⟨hsz, fun k hk => ?_⟩
    have := scan_none hs k (Nat.zero_le k) (by omega)
    simpa [rbad] using this
theorem begins_alnum {κ : Int} (hκ : κ = 0 ∨ κ = 3) {n : Nat} {s : ByteArray} (h : beginsOut κ n s = 0) : s.size = n ∧ alnum s s.size := by
  obtain ⟨h1, h2⟩ := begins_ok h
  exact ⟨h1, fun k hk => may_alnum hκ (h2 k (by omega))⟩

def isinOut (s : ByteArray) : Int × Int := bif beginsOut 0 11 s != 0 then (0, beginsOut 0 11 s) else (48 + ((luhnD (exps s 11) : Nat) : Int), 0)
def leiOut (s : ByteArray) : ByteArray × Int := bif beginsOut 3 18 s != 0 then (⟨#[]⟩, beginsOut 3 18 s) else (pairStr (98 - m97 (exps s 18 ++ [0, 0])), 0)

def tabI : List (Nat × Entry) := [(62, eRLuhn), (64, eRMod97), (63, ePair), (61, eMay), (60, eLengths)]
theorem tabI_ok : SpecOk Tryd.prog (table tabI) := table_ok ⟨eRLuhn_ok, eRMod97_ok, ePair_ok, eMay_ok, eLengths_ok, trivial⟩
theorem mo_wrap (m : Nat) (h : m < 97) : IntKind.i64.wrap (98 - (m : Int)) = ((98 - m : Nat) : Int) := by
  rw [IntWalk.i64_in _ ⟨by omega, by omega⟩]; omega
end Go.Proofs.YtekifbnnkcgipaaDoor
