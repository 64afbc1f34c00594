/- Contracts of the character classes of giro/ident and giro/giroref05. Conditions: none. -/
import Derived.Test.YtekifbnnkcgipaaDoorTab
import Derived.Test.YtekifbnnkcgipaaDoorSimM
import Derived.Test.YtekifbnnkcgipaaDoorExp
namespace Go.Proofs.YtekifbnnkcgipaaDoor
open Go.Sim

/-- A Go body under a plain name. -/
def goodFn (fn : Func) : Bool := !(fn.name == "runtime.NumGoroutine") && fn.body.isSome
theorem enters {g : FuncId} (fn : Func) (hf : Tryd.prog.funcs[g]? = some fn) (h : goodFn fn = true) : Sim.Enters Tryd.prog g := by
  unfold goodFn at h
  simp only [Bool.and_eq_true, Bool.not_eq_true'] at h
  exact ⟨fn, hf, h.1, h.2⟩

def alnB (c : Int) : Bool := letB c || digB c
def refB (c : Int) : Bool := alnB c || decide (c = 45)

theorem letter_pure (c : Int) : Pure Tryd.prog 92 [.val (.int .u8 c)] (.d (.val (.bool (letB c)))) := by
  refine pure_fn (τ := tab) mixed noSpec_ok Tryd.f92 Tryd.func92 (by kernel_rfl) rfl (by kernel_rfl) ?_
  exact ⟨trivial, by kernel_rfl⟩
theorem digit_pure (c : Int) : Pure Tryd.prog 94 [.val (.int .u8 c)] (.d (.val (.bool (digB c)))) := by
  refine pure_fn (τ := tab) mixed noSpec_ok Tryd.f94 Tryd.func94 (by kernel_rfl) rfl (by kernel_rfl) ?_
  exact ⟨trivial, by kernel_rfl⟩
theorem rletter_pure (c : Int) : Pure Tryd.prog 98 [.val (.int .u8 c)] (.d (.val (.bool (letB c)))) := by
  refine pure_fn (τ := tab) mixed noSpec_ok Tryd.f98 Tryd.func98 (by kernel_rfl) rfl (by kernel_rfl) ?_
  exact ⟨trivial, by kernel_rfl⟩
theorem rdigit_pure (c : Int) : Pure Tryd.prog 99 [.val (.int .u8 c)] (.d (.val (.bool (digB c)))) := by
  refine pure_fn (τ := tab) mixed noSpec_ok Tryd.f99 Tryd.func99 (by kernel_rfl) rfl (by kernel_rfl) ?_
  exact ⟨trivial, by kernel_rfl⟩

/-- A contract for one byte. -/
def eByte (f : Int → Bool) : Entry := fun args => match args with
  | [.val (.int .u8 c)] => some ([], .d (.val (.bool (f c))))
  | _ => none
theorem eByte_ok {g : FuncId} {f : Int → Bool} (hg : Sim.Enters Tryd.prog g) (h : ∀ c, Pure Tryd.prog g [.val (.int .u8 c)] (.d (.val (.bool (f c))))) : EntryOk Tryd.prog g (eByte f) := by
  refine ⟨hg, fun args ps x hf _ => ?_⟩
  unfold eByte at hf
  split at hf
  · simp only [Option.some.injEq, Prod.mk.injEq] at hf
    obtain ⟨_, rfl⟩ := hf
    exact h _
  · cases hf

theorem letter_ok : EntryOk Tryd.prog 92 (eByte letB) := eByte_ok (enters Tryd.f92 Tryd.func92 (by kernel_rfl)) letter_pure
theorem digit_ok : EntryOk Tryd.prog 94 (eByte digB) := eByte_ok (enters Tryd.f94 Tryd.func94 (by kernel_rfl)) digit_pure
theorem rletter_ok : EntryOk Tryd.prog 98 (eByte letB) := eByte_ok (enters Tryd.f98 Tryd.func98 (by kernel_rfl)) rletter_pure
theorem rdigit_ok : EntryOk Tryd.prog 99 (eByte digB) := eByte_ok (enters Tryd.f99 Tryd.func99 (by kernel_rfl)) rdigit_pure

def tabA : List (Nat × Entry) := [(92, eByte letB), (94, eByte digB)]
theorem tabA_ok : SpecOk Tryd.prog (table tabA) := table_ok ⟨letter_ok, digit_ok, trivial⟩
theorem alphanumeric_pure (c : Int) : Pure Tryd.prog 93 [.val (.int .u8 c)] (.d (.val (.bool (alnB c)))) := by
  refine pure_fn (τ := tab) mixed tabA_ok Tryd.f93 Tryd.func93 (by kernel_rfl) rfl (by kernel_rfl) ?_
  exact ⟨trivial, by kernel_rfl⟩
theorem alphanumeric_ok : EntryOk Tryd.prog 93 (eByte alnB) := eByte_ok (enters Tryd.f93 Tryd.func93 (by kernel_rfl)) alphanumeric_pure
def tabB : List (Nat × Entry) := [(93, eByte alnB)]
theorem tabB_ok : SpecOk Tryd.prog (table tabB) := table_ok ⟨alphanumeric_ok, trivial⟩
theorem refCharacter_pure (c : Int) : Pure Tryd.prog 96 [.val (.int .u8 c)] (.d (.val (.bool (refB c)))) := by
  refine pure_fn (τ := tab) mixed tabB_ok Tryd.f96 Tryd.func96 (by kernel_rfl) rfl (by kernel_rfl) ?_
  exact ⟨trivial, by kernel_rfl⟩
theorem refCharacter_ok : EntryOk Tryd.prog 96 (eByte refB) := eByte_ok (enters Tryd.f96 Tryd.func96 (by kernel_rfl)) refCharacter_pure

/-- The characters of a class, the class named by its function's number. -/
def clsB (h : FuncId) (c : Int) : Bool := bif Nat.beq h 92 then letB c else bif Nat.beq h 93 then alnB c else bif Nat.beq h 94 then digB c else refB c
def isCls (h : FuncId) : Prop := h = 92 ∨ h = 93 ∨ h = 94 ∨ h = 96
def clsSpec : Sim.Spec := fun h args => match args with
  | [.val (.int .u8 c)] => some ([isCls h], .d (.val (.bool (clsB h c))))
  | _ => none
theorem clsSpec_ok : SpecOk Tryd.prog clsSpec := by
  intro g args ps x hs hp
  unfold clsSpec at hs
  split at hs
  · rename_i c
    simp only [Option.some.injEq, Prod.mk.injEq] at hs
    obtain ⟨rfl, rfl⟩ := hs
    rcases hp _ (List.mem_singleton.2 rfl) with rfl | rfl | rfl | rfl
    · exact ⟨letter_ok.1, letter_pure c⟩
    · exact ⟨alphanumeric_ok.1, alphanumeric_pure c⟩
    · exact ⟨digit_ok.1, digit_pure c⟩
    · exact ⟨refCharacter_ok.1, refCharacter_pure c⟩
  · cases hs
end Go.Proofs.YtekifbnnkcgipaaDoor
