/- Plain law of identifiers' checks, and contracts of the reference's may, Lengths, begins, ISIN, LEI and Check. Conditions: at most 1000 bytes. -/
import Derived.Test.YtekifbnnkcgipaaDoorIdR
namespace Go.Proofs.YtekifbnnkcgipaaDoor
open Go.Sim

/-- Characters by kinds: bit 0 letters, bit 1 digits, bit 2 the hyphen. -/
def byFl (l d h : Bool) (c : Int) : Bool := (l && letB c || d && digB c) || h && (c == 45)
def flM (κ : Int) (k : Int) : Bool × Bool × Bool :=
  bif κ == 0 then (decide (k < 11), decide (k ≥ 2) && decide (k ≤ 11), false)
  else bif κ == 1 then (true, decide (k > 0), false)
  else bif κ == 2 then (true, true, true)
  else (decide (k < 18), true, false)
def flC (h : FuncId) : Bool × Bool × Bool := bif Nat.beq h 92 then (true, false, false) else bif Nat.beq h 93 then (true, true, false) else bif Nat.beq h 94 then (false, true, false) else (true, true, true)
theorem clsB_fl (h : FuncId) (c : Int) : clsB h c = byFl (flC h).1 (flC h).2.1 (flC h).2.2 c := by
  unfold clsB flC
  cases Nat.beq h 92 <;> cases Nat.beq h 93 <;> cases Nat.beq h 94 <;> simp [byFl, alnB, refB, Bool.or_assoc, BEq.beq]

/-- The reference's may, as it computes. -/
def m0 (i c : Int) : Bool := ((decide (i < 2) && letB c) || ((decide (i ≥ 2) && decide (i < 11)) && (letB c || digB c))) || ((i == 11) && digB c)
def m1 (i c : Int) : Bool := letB c || (decide (i > 0) && digB c)
def m2 (c : Int) : Bool := (letB c || digB c) || (c == 45)
def m3 (i c : Int) : Bool := digB c || (decide (i < 18) && letB c)
def mayB (κ i c : Int) : Bool := bif κ == 0 then m0 i c else bif κ == 1 then m1 i c else bif κ == 2 then m2 c else m3 i c
theorem mayB_fl (κ : Int) (k : Nat) (c : Int) : mayB κ k c = byFl (flM κ k).1 (flM κ k).2.1 (flM κ k).2.2 c := by
  unfold mayB flM byFl
  cases κ == 0
  · cases κ == 1
    · cases κ == 2
      · simp [m3, Bool.or_comm]
      · simp [m2]
    · simp [m1]
  · simp only [cond_true, m0]
    rcases Nat.lt_or_ge k 2 with h | h
    · have e1 : decide ((k : Int) < 2) = true := by simp; omega
      have e2 : decide ((k : Int) ≥ 2) = false := by simp; omega
      have e3 : ((k : Int) == 11) = false := by simp; omega
      have e4 : decide ((k : Int) < 11) = true := by simp; omega
      simp [e1, e2, e3, e4]
    · have e1 : decide ((k : Int) < 2) = false := by simp; omega
      have e2 : decide ((k : Int) ≥ 2) = true := by simp; omega
      rcases Nat.lt_trichotomy k 11 with h1 | h1 | h1
      · have e3 : ((k : Int) == 11) = false := by simp; omega
        have e4 : decide ((k : Int) < 11) = true := by simp; omega
        have e5 : decide ((k : Int) ≤ 11) = true := by simp; omega
        simp [e1, e2, e3, e4, e5]
      · subst h1; simp
      · have e3 : ((k : Int) == 11) = false := by simp; omega
        have e4 : decide ((k : Int) < 11) = false := by simp; omega
        have e5 : decide ((k : Int) ≤ 11) = false := by simp; omega
        simp [e1, e2, e3, e4, e5]

set_option maxRecDepth 100000 in
theorem may_pure (κ i c : Int) : Pure Tryd.prog 61 [.val (.int .i64 κ), .val (.int .i64 i), .val (.int .u8 c)] (.d (.val (.bool (mayB κ i c)))) := by
  refine pure_fn (τ := tab) mixed tabR_ok Tryd.f61 Tryd.func61 (by kernel_rfl) rfl (by kernel_rfl) ?_
  refine ⟨fun h0 => ?_, fun h0 => ⟨fun h1 => ?_, fun h1 => ⟨fun h2 => ?_, fun h2 => ?_⟩⟩⟩
  · have e : mayB κ i c = m0 i c := by unfold mayB; rw [show (κ == 0) = true from h0]; rfl
    exact ends_ret (y := .d (.val (.bool (m0 i c)))) (by rw [e]) (by kernel_rfl)
  · have e : mayB κ i c = m1 i c := by unfold mayB; rw [show (κ == 0) = false from h0, show (κ == 1) = true from h1]; rfl
    exact ends_ret (y := .d (.val (.bool (m1 i c)))) (by rw [e]) (by kernel_rfl)
  · have e : mayB κ i c = m2 c := by unfold mayB; rw [show (κ == 0) = false from h0, show (κ == 1) = false from h1, show (κ == 2) = true from h2]; rfl
    exact ends_ret (y := .d (.val (.bool (m2 c)))) (by rw [e]) (by kernel_rfl)
  · have e : mayB κ i c = m3 i c := by unfold mayB; rw [show (κ == 0) = false from h0, show (κ == 1) = false from h1, show (κ == 2) = false from h2]; rfl
    exact ends_ret (y := .d (.val (.bool (m3 i c)))) (by rw [e]) (by kernel_rfl)

/-- The least and the greatest length. -/
def loK (κ : Int) : Nat := bif κ == 0 then 12 else bif κ == 1 then 4 else bif κ == 2 then 1 else 20
def hiK (κ : Int) : Nat := bif κ == 0 then 12 else bif κ == 1 then 8 else bif κ == 2 then 16 else 20
set_option maxRecDepth 100000 in
theorem lengths_pure (κ : Int) : Pure Tryd.prog 60 [.val (.int .i64 κ)] (.tup [.d (.val (.int .i64 (loK κ))), .d (.val (.int .i64 (hiK κ)))]) := by
  refine pure_fn (τ := tab) mixed noSpec_ok Tryd.f60 Tryd.func60 (by kernel_rfl) rfl (by kernel_rfl) ?_
  refine ⟨fun h0 => ?_, fun h0 => ⟨fun h1 => ?_, fun h1 => ⟨fun h2 => ?_, fun h2 => ?_⟩⟩⟩
  · have e : loK κ = 12 ∧ hiK κ = 12 := by unfold loK hiK; rw [show (κ == 0) = true from h0]; exact ⟨rfl, rfl⟩
    exact ends_ret (y := .tup [.d (.val (.int .i64 12)), .d (.val (.int .i64 12))]) (by rw [e.1, e.2]; rfl) (by kernel_rfl)
  · have e : loK κ = 4 ∧ hiK κ = 8 := by unfold loK hiK; rw [show (κ == 0) = false from h0, show (κ == 1) = true from h1]; exact ⟨rfl, rfl⟩
    exact ends_ret (y := .tup [.d (.val (.int .i64 4)), .d (.val (.int .i64 8))]) (by rw [e.1, e.2]; rfl) (by kernel_rfl)
  · have e : loK κ = 1 ∧ hiK κ = 16 := by unfold loK hiK; rw [show (κ == 0) = false from h0, show (κ == 1) = false from h1, show (κ == 2) = true from h2]; exact ⟨rfl, rfl⟩
    exact ends_ret (y := .tup [.d (.val (.int .i64 1)), .d (.val (.int .i64 16))]) (by rw [e.1, e.2]; rfl) (by kernel_rfl)
  · have e : loK κ = 20 ∧ hiK κ = 20 := by unfold loK hiK; rw [show (κ == 0) = false from h0, show (κ == 1) = false from h1, show (κ == 2) = false from h2]; exact ⟨rfl, rfl⟩
    exact ends_ret (y := .tup [.d (.val (.int .i64 20)), .d (.val (.int .i64 20))]) (by rw [e.1, e.2]; rfl) (by kernel_rfl)

def eMay : Entry := fun args => match args with
  | [.val (.int .i64 κ), .val (.int .i64 i), .val (.int .u8 c)] => some ([], .d (.val (.bool (mayB κ i c))))
  | _ => none
theorem eMay_ok : EntryOk Tryd.prog 61 eMay := by
  refine ⟨enters Tryd.f61 Tryd.func61 (by kernel_rfl), fun args ps x h hp => ?_⟩
  unfold eMay at h
  split at h
  · simp only [Option.some.injEq, Prod.mk.injEq] at h
    obtain ⟨rfl, rfl⟩ := h
    exact may_pure _ _ _
  · cases h
def eLengths : Entry := fun args => match args with
  | [.val (.int .i64 κ)] => some ([], .tup [.d (.val (.int .i64 (loK κ))), .d (.val (.int .i64 (hiK κ)))])
  | _ => none
theorem eLengths_ok : EntryOk Tryd.prog 60 eLengths := by
  refine ⟨enters Tryd.f60 Tryd.func60 (by kernel_rfl), fun args ps x h hp => ?_⟩
  unfold eLengths at h
  split at h
  · simp only [Option.some.injEq, Prod.mk.injEq] at h
    obtain ⟨rfl, rfl⟩ := h
    exact lengths_pure _
  · cases h
def eRLuhn : Entry := fun args => match args with
  | [.val (.string s)] => some ([s.size ≤ 1000, alnum s s.size], .d (.val (.int .i64 (luhnD (exps s s.size) : Nat))))
  | _ => none
theorem eRLuhn_ok : EntryOk Tryd.prog 62 eRLuhn := by
  refine ⟨enters Tryd.f62 Tryd.func62 (by kernel_rfl), fun args ps x h hp => ?_⟩
  unfold eRLuhn at h
  split at h
  · simp only [Option.some.injEq, Prod.mk.injEq] at h
    obtain ⟨rfl, rfl⟩ := h
    exact rluhn_pure _ (hp _ (by simp)) (hp _ (by simp))
  · cases h
def eRMod97 : Entry := fun args => match args with
  | [.val (.string s)] => some ([s.size ≤ 1000, alnum s s.size], .d (.val (.int .i64 (m97 (exps s s.size) : Nat))))
  | _ => none
theorem eRMod97_ok : EntryOk Tryd.prog 64 eRMod97 := by
  refine ⟨enters Tryd.f64 Tryd.func64 (by kernel_rfl), fun args ps x h hp => ?_⟩
  unfold eRMod97 at h
  split at h
  · simp only [Option.some.injEq, Prod.mk.injEq] at h
    obtain ⟨rfl, rfl⟩ := h
    exact rmod97_pure _ (hp _ (by simp)) (hp _ (by simp))
  · cases h
def ePair : Entry := fun args => match args with
  | [.val (.int .i64 n)] => some ([0 ≤ n ∧ n < 100], .d (.val (.string (pairStr n.toNat))))
  | _ => none
theorem ePair_ok : EntryOk Tryd.prog 63 ePair := by
  refine ⟨enters Tryd.f63 Tryd.func63 (by kernel_rfl), fun args ps x h hp => ?_⟩
  unfold ePair at h
  split at h
  · rename_i n
    simp only [Option.some.injEq, Prod.mk.injEq] at h
    obtain ⟨rfl, rfl⟩ := h
    have hn : 0 ≤ n ∧ n < 100 := hp _ (by simp)
    have := pair_pure n.toNat (by omega)
    rwa [show ((n.toNat : Nat) : Int) = n by omega] at this
  · cases h

/-- The first character of a kind that may not stand where it stands. -/
def rbad (κ : Int) (s : ByteArray) (k : Nat) : Bool := !(mayB κ k (byteAt s k))
def beginsOut (κ : Int) (n : Nat) (s : ByteArray) : Int :=
  match scan (rbad κ s) (min s.size n) 0 with
  | some _ => 3
  | none => bif decide ((s.size : Int) < n) then 4 else bif decide ((s.size : Int) > n) then 5 else 0
end Go.Proofs.YtekifbnnkcgipaaDoor
