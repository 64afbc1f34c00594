/- Plain facts on identifiers' characters and digits; no program. Conditions: none. -/
import Derived.Test.YtekifbnnkcgipaaDoorSimA
import Derived.Lib.ItoaNum
import Derived.Lib.UnsafeStr
namespace Go.Proofs.YtekifbnnkcgipaaDoor
open Go.Sim (byteAt)

def digB (c : Int) : Bool := decide (c ≥ 48) && decide (c ≤ 57)
def letB (c : Int) : Bool := decide (c ≥ 65) && decide (c ≤ 90)
/-- The digits of a character's value. -/
def expF (c : Int) : List Nat := bif digB c then [(c - 48).toNat] else [((c - 65).toNat + 10) / 10, ((c - 65).toNat + 10) % 10]
def exps (s : ByteArray) : Nat → List Nat
  | 0 => []
  | k + 1 => exps s k ++ expF (byteAt s k)
def asc (l : List Nat) : List UInt8 := l.map fun d => UInt8.ofNat (48 + d)
def alnum (s : ByteArray) (k : Nat) : Prop := ∀ i, i < k → digB (byteAt s i) = true ∨ letB (byteAt s i) = true

theorem digB_iff (c : Int) : digB c = true ↔ 48 ≤ c ∧ c ≤ 57 := by simp [digB]
theorem letB_iff (c : Int) : letB c = true ↔ 65 ≤ c ∧ c ≤ 90 := by simp [letB]
theorem byteAt_of {s : ByteArray} {k : Nat} (h : k < s.size) : byteAt s k = ((s[k]'h).toNat : Int) := by
  unfold byteAt
  rw [Array.getD_eq_getD_getElem?, Array.getElem?_eq_getElem (show k < s.data.size from h)]
  rfl
theorem byteAt_nonneg (s : ByteArray) (k : Nat) : 0 ≤ byteAt s k := Int.natCast_nonneg _
theorem byteAt_lt (s : ByteArray) (k : Nat) : byteAt s k < 256 := by
  unfold byteAt
  have := (s.data.getD k 0).toNat_lt
  omega
theorem expF_len (c : Int) : (expF c).length ≤ 2 := by unfold expF; cases digB c <;> simp
theorem exps_len (s : ByteArray) (k : Nat) : (exps s k).length ≤ 2 * k := by
  induction k with
  | zero => simp [exps]
  | succ k ih => have := expF_len (byteAt s k); simp [exps]; omega
theorem expF_lt {c : Int} (h : digB c = true ∨ letB c = true) : ∀ d ∈ expF c, d < 10 := by
  intro d hd
  unfold expF at hd
  rcases h with h | h
  · rw [h] at hd
    rw [digB_iff] at h
    simp at hd; omega
  · have h' := (letB_iff c).1 h
    have hd' : digB c = false := by
      cases e : digB c with
      | false => rfl
      | true => rw [digB_iff] at e; omega
    rw [hd'] at hd
    simp at hd
    omega
theorem exps_lt {s : ByteArray} : ∀ {k : Nat}, alnum s k → ∀ d ∈ exps s k, d < 10
  | 0, _, d, hd => by simp [exps] at hd
  | k + 1, h, d, hd => by
    rcases List.mem_append.1 hd with hd | hd
    · exact exps_lt (fun i hi => h i (by omega)) d hd
    · exact expF_lt (h k (by omega)) d hd
/-- The value of a letter, written in decimal. -/
theorem dec_letter {c : Int} (h : letB c = true) : Lib.decDigits ((c - 65).toNat + 10) = asc (expF c) := by
  have h' := (letB_iff c).1 h
  have hd' : digB c = false := by
    cases e : digB c with
    | false => rfl
    | true => rw [digB_iff] at e; omega
  unfold expF
  rw [hd']
  unfold Lib.decDigits
  rw [dif_neg (by omega)]
  unfold Lib.decDigits
  rw [dif_pos (by omega)]
  rfl
theorem asc_append (l m : List Nat) : asc (l ++ m) = asc l ++ asc m := by simp [asc]
theorem asc_digit {c : Int} (h : digB c = true) : Lib.byteCells (asc (expF c)) = [.int .u8 c] := by
  have h' := (digB_iff c).1 h
  unfold expF
  rw [h]
  have : (UInt8.ofNat (48 + (c - 48).toNat)).toNat = 48 + (c - 48).toNat := by
    rw [UInt8.toNat_ofNat']; omega
  simp only [cond_true, asc, List.map, Lib.byteCells, this]
  congr 2
  omega
end Go.Proofs.YtekifbnnkcgipaaDoor
