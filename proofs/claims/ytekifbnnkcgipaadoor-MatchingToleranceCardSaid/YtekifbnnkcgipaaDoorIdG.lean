/- Contracts of giro/ident's Valid, checkDigits, LEICheckDigits and ISINCheckDigit. Conditions: none. -/
import Derived.Test.YtekifbnnkcgipaaDoorIdF
namespace Go.Proofs.YtekifbnnkcgipaaDoor
open Go.Sim

def eCheck : Entry := fun args => match args with
  | [.val (.int .i64 κ), .val (.string s)] => some ([], .tup [.d (.val (.int .i64 (checkOut κ s).1)), .d (.val (.int .i64 (checkOut κ s).2))])
  | _ => none
theorem eCheck_ok : EntryOk Tryd.prog 20 eCheck := by
  refine ⟨enters Tryd.f20 Tryd.func20 (by kernel_rfl), fun args ps x h hp => ?_⟩
  unfold eCheck at h
  split at h
  · simp only [Option.some.injEq, Prod.mk.injEq] at h
    obtain ⟨rfl, rfl⟩ := h
    exact check_pure _ _
  · cases h
def tabV : List (Nat × Entry) := [(20, eCheck)]
theorem tabV_ok : SpecOk Tryd.prog (table tabV) := table_ok ⟨eCheck_ok, trivial⟩
def validB (κ : Int) (s : ByteArray) : Bool := (checkOut κ s).2 == 0
theorem valid_pure (κ : Int) (s : ByteArray) : Pure Tryd.prog 23 [.val (.int .i64 κ), .val (.string s)] (.d (.val (.bool (validB κ s)))) := by
  refine pure_fn (τ := tab) mixed tabV_ok Tryd.f23 Tryd.func23 (by kernel_rfl) rfl (by kernel_rfl) ?_
  exact ends_ret rfl (by kernel_rfl)
def eValid : Entry := fun args => match args with
  | [.val (.int .i64 κ), .val (.string s)] => some ([], .d (.val (.bool (validB κ s))))
  | _ => none
theorem eValid_ok : EntryOk Tryd.prog 23 eValid := by
  refine ⟨enters Tryd.f23 Tryd.func23 (by kernel_rfl), fun args ps x h hp => ?_⟩
  unfold eValid at h
  split at h
  · simp only [Option.some.injEq, Prod.mk.injEq] at h
    obtain ⟨rfl, rfl⟩ := h
    exact valid_pure _ _
  · cases h
def eRCheck : Entry := fun args => match args with
  | [.val (.int .i64 κ), .val (.string s)] => some ([], .tup [.d (.val (.int .i64 (checkOut κ s).1)), .d (.val (.int .i64 (checkOut κ s).2))])
  | _ => none
theorem eRCheck_ok : EntryOk Tryd.prog 21 eRCheck := by
  refine ⟨enters Tryd.f21 Tryd.func21 (by kernel_rfl), fun args ps x h hp => ?_⟩
  unfold eRCheck at h
  split at h
  · simp only [Option.some.injEq, Prod.mk.injEq] at h
    obtain ⟨rfl, rfl⟩ := h
    exact rcheck_pure _ _
  · cases h

end Go.Proofs.YtekifbnnkcgipaaDoor
