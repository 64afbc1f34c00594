/- The example of the document, as girolaw23.known computes it. Conditions: none. -/
import Derived.Test.YtekifbnnkcgipaaDoorMsJ
namespace Go.Proofs.YtekifbnnkcgipaaDoor
open Go.Sim

def sD1 : ByteArray := ⟨#[68, 49]⟩
def sR1 : ByteArray := ⟨#[82, 49]⟩
def sBA : ByteArray := ⟨#[66, 65, 78, 75, 65]⟩
def sBB : ByteArray := ⟨#[66, 65, 78, 75, 66]⟩
def sUS : ByteArray := ⟨#[85, 83, 48, 51, 55, 56, 51, 51, 49, 48, 48, 53]⟩
def sID : ByteArray := ⟨#[66, 65, 78, 75, 65, 47, 68, 49]⟩
def kA : Ins := ⟨sD1, 1, sBA, sBB, 0, sUS, 100, 2500000, 9812, 9816, 0, false, 0, false, false, 0, fun _ => .nil⟩
def kB : Ins := ⟨sR1, 1, sBB, sBA, 1, sUS, 100, 2500002, 9812, 9816, 0, false, 0, false, false, 0, fun _ => .nil⟩
theorem kA_ok : msgCheck kA = 0 := by kernel_rfl
theorem kB_ok : msgCheck kB = 0 := by kernel_rfl
theorem kE : matE kB kA 2 = 0 := by kernel_rfl
theorem kT : matT kB kA 2 = trdOf kA kB := by unfold matT; rw [kE]; rfl
theorem kC : cmpE kA kB 1 = 0 := by kernel_rfl
theorem kL : cmpL kA kB 1 = [5] := by kernel_rfl
def knT : Trd := matT kB kA 2
def kb5 : Bool := ((((matE kB kA 2 == 0) && (knT.del.toList == sBA.toList)) && (knT.rcv.toList == sBB.toList)) && (knT.amt == 2500000)) && ((knT.r0.toList == sD1.toList) && ((knT.r1.toList == sR1.toList) && true))
def kb8 : Bool := ((kb5 && (knT.id.toList == sID.toList)) && (cmpE kA kB 1 == 0)) && (((cmpL kA kB 1).length : Int) == 1)
def kb9 : Bool := kb8 && ((cmpL kA kB 1).getD 0 0 == 5)
theorem kb9_eq : kb9 = true := by kernel_rfl
def tabKn : List (Nat × Entry) := [(36, eI2t matR), (32, eI2t cmpR), (47, eT1 idC fun t => .d (vS t.id))]
theorem tabKn_ok : SpecOk Tryd.prog (table tabKn) := table_ok ⟨match_ok, compare_ok, id_ok, trivial⟩
set_option maxRecDepth 100000 in
theorem known_pure : Pure Tryd.prog 30 [] (bv true) := by
  have key : kB.wf ∧ kA.wf ∧ kA.wf ∧ kB.wf ∧ (kb5 = true → ((knT.del.size + slash.size : Nat) : Int) ≤ IntKind.i64.max) ∧ (kb5 = true → (((knT.del ++ slash).size + knT.r0.size : Nat) : Int) ≤ IntKind.i64.max) ∧
      (kb8 = true → (0 : Int) ≤ 0 ∧ (0 : Int) < ((cmpL kA kB 1).length : Int)) ∧ Fin (bv kb9) (bv true) :=
    ⟨fun k h => absurd h (Nat.not_lt_zero k), fun k h => absurd h (Nat.not_lt_zero k), fun k h => absurd h (Nat.not_lt_zero k), fun k h => absurd h (Nat.not_lt_zero k), fun _ => of_decide_eq_true (by kernel_rfl), fun _ => of_decide_eq_true (by kernel_rfl), fun _ => of_decide_eq_true (by kernel_rfl),
      fin_of (by rw [kb9_eq])⟩
  exact pure_vc (τ := tab) mixed tabKn_ok Tryd.f30 Tryd.func30 (by kernel_rfl) rfl (by kernel_rfl) key (by kernel_rfl)
def eKnown : Entry := fun args => match args with
  | [] => some ([], bv true)
  | _ => none
theorem known_ok : EntryOk Tryd.prog 30 eKnown := by
  refine ⟨enters Tryd.f30 Tryd.func30 (by kernel_rfl), fun args ps x h hp => ?_⟩
  unfold eKnown at h
  split at h
  · simp only [Option.some.injEq, Prod.mk.injEq] at h
    obtain ⟨rfl, rfl⟩ := h
    exact known_pure
  · cases h
end Go.Proofs.YtekifbnnkcgipaaDoor
