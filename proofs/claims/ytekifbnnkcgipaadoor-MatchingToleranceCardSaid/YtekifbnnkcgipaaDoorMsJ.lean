/- Contracts of girolaw23's few, same, To, Of, and of Trade.Id. Conditions: rows that hold what they should. -/
import Derived.Test.YtekifbnnkcgipaaDoorMsI
namespace Go.Proofs.YtekifbnnkcgipaaDoor
open Go.Sim

def insD (x : RV) : Ins := match insOf x with
  | some i => i
  | none => noIns
def okIns (n : Nat) (f : Nat → RV) : Prop := ∀ k, k < n → f k = (insD (f k)).rv
def insF (g : Nat → Ins) : Nat → RV := fun k => (g k).rv
def isN : Option Nat → Bool
  | some _ => false
  | none => true
def noneB (p : Nat → Bool) (n : Nat) : Bool := isN (scan p n 0)
theorem noneB_scan {p : Nat → Bool} {n : Nat} {o : Option Nat} (h : scan p n 0 = o) : noneB p n = isN o := by unfold noneB; rw [h]
theorem isN_iff (p : Nat → Bool) : ∀ (m k : Nat), isN (scan p m k) = true ↔ ∀ q, k ≤ q → q < k + m → p q = false
  | 0, k => by simp only [scan]; exact ⟨fun _ q _ _ => (by omega), fun _ => rfl⟩
  | m + 1, k => by
    simp only [scan]
    cases hp : p k with
    | true =>
      refine ⟨fun h => (by cases h), fun h => ?_⟩
      have := h k (Nat.le_refl _) (by omega)
      rw [hp] at this; cases this
    | false =>
      have ih := isN_iff p m (k + 1)
      refine ⟨fun h q h1 h2 => ?_, fun h => ih.2 fun q h1 h2 => h q (by omega) (by omega)⟩
      rcases Nat.eq_or_lt_of_le h1 with e | e
      · rw [← e]; exact hp
      · exact ih.1 h q e (by omega)
theorem noneB_iff {p : Nat → Bool} {n : Nat} : noneB p n = true ↔ ∀ k, k < n → p k = false := by
  unfold noneB
  rw [isN_iff]
  exact ⟨fun h k hk => h k (Nat.zero_le _) (by omega), fun h q _ hq => h q (by omega)⟩
/-- A loop over n places that ends at the first where p holds. -/
theorem scan_round (p : Nat → Bool) (n k : Nat) (B : Prop → Prop) (X : SV) (st : Int → St) (out : St) (hX : X = bv (noneB p n)) (hn : n ≤ 1000000) (hk : k ≤ n) (hsc : scan p (n - k) k = scan p n 0) (hB : k < n → ∀ R : Prop, R → B R) :
    (decide ((k : Int) < (n : Int)) = true → B ((p k = true → Fin (bv false) X) ∧ (p k = false → ∃ k' : Nat, n - k' < n - k ∧ (k' ≤ n ∧ scan p (n - k') k' = scan p n 0) ∧ some (st (IntKind.i64.wrap ((k : Int) + 1))) = some (st k')))) ∧
    (decide ((k : Int) < (n : Int)) = false → ∃ _ : Unit, noneB p n = true ∧ some out = some out) := by
  refine ⟨fun h => ?_, fun h => ⟨(), ?_, rfl⟩⟩
  · have hlt : k < n := by have := of_decide_eq_true h; omega
    obtain ⟨m, hm⟩ : ∃ m, n - k = m + 1 := ⟨n - k - 1, by omega⟩
    rw [hm, scan] at hsc
    refine hB hlt _ ⟨fun hb => fin_of ?_, fun hb => ⟨k + 1, by omega, ⟨by omega, ?_⟩, by rw [i64_succ k (by omega)]⟩⟩
    · rw [hb] at hsc
      rw [hX, noneB_scan hsc.symm]; rfl
    · rw [hb] at hsc
      rw [← hsc, show n - (k + 1) = m by omega]; rfl
  · have hge : k = n := by have := of_decide_eq_false h; omega
    rw [hge, Nat.sub_self] at hsc
    rw [noneB_scan hsc.symm]; rfl

def fewP (g : Nat → Ins) (k : Nat) : Bool := decide (((g k).ln : Int) > 12)
def fwSt (n : Nat) (g : Nat → Ins) (k : Int) : St := ⟨17, [(0, .d (.row 16 n (insF g))), (3, iv k)], [], [], [], 0⟩
theorem few_pure (n : Nat) (hn : n ≤ 1000000) (g : Nat → Ins) : Pure Tryd.prog 31 [.row 16 n (insF g)] (bv (noneB (fewP g) n)) := by
  refine pure_list (τ := tab) Tryd.f31 Tryd.func31 (by kernel_rfl) rfl (by kernel_rfl) ?_
  have key0 : ∃ _ : Unit, True ∧ some (fwSt n g 0) = some (fwSt n g 0) := ⟨(), trivial, rfl⟩
  refine cutK (τ := tab) (sp := noSpec) mixed noSpec_ok 2 (.keep [0, 3]) (fun _ : Unit => True) (fun _ => fwSt n g 0) key0 (by kernel_rfl) fun _ _ => ?_
  refine wpL_loop (by kernel_rfl) (fun k : Nat => fwSt n g k) (fun k => n - k) (fun k => k ≤ n ∧ scan (fewP g) (n - k) k = scan (fewP g) n 0) (.keep [0, 3]) (.keep []) (fun _ : Unit => noneB (fewP g) n = true) (fun _ => ⟨17, [], [], [], [], 0⟩) 0 ⟨Nat.zero_le n, rfl⟩ (fun k hk => ?_) fun _ hy => ?_
  · exact endK (τ := tab) (sp := noSpec) mixed noSpec_ok (scan_round (fewP g) n k (fun R => ((0 : Int) ≤ k ∧ (k : Int) < (n : Int)) ∧ R) (bv (noneB (fewP g) n)) (fwSt n g) ⟨17, [], [], [], [], 0⟩ rfl hn hk.1 hk.2 fun h _ r => ⟨⟨by omega, by omega⟩, r⟩) (by kernel_rfl)
  · exact endK (τ := tab) (sp := noSpec) mixed noSpec_ok (fin_of (y := bv true) (x := bv (noneB (fewP g) n)) (by rw [hy])) (by kernel_rfl)
def eFew : Entry := fun args => match args with
  | [.row s n f] => match Nat.beq s 16 with
    | true => some ([n ≤ 1000000, okIns n f], bv (noneB (fewP fun k => insD (f k)) n))
    | false => none
  | _ => none
theorem few_ok : EntryOk Tryd.prog 31 eFew := by
  refine ⟨enters Tryd.f31 Tryd.func31 (by kernel_rfl), fun args ps x h hp => ?_⟩
  unfold eFew at h
  split at h
  · rename_i s n f
    split at h
    · rename_i hs
      simp only [Option.some.injEq, Prod.mk.injEq] at h
      obtain ⟨rfl, rfl⟩ := h
      rw [Nat.eq_of_beq_eq_true hs]
      have h2 : okIns n f := hp _ (by simp)
      exact pure_args (few_pure n (hp _ (by simp)) fun k => insD (f k)) fun N w vs hc => cells_one (fun v hv => RDen.row_le hv h2) hc
    · cases h
  · cases h

/-- Rows of numbers. -/
def numD : RV → Int
  | .val (.int .i64 n) => n
  | _ => 0
def okNum (n : Nat) (f : Nat → RV) : Prop := ∀ k, k < n → f k = vI (numD (f k))
def numF (g : Nat → Int) : Nat → RV := fun k => vI (g k)
def sameX (n m : Nat) (a b : Nat → Int) : Bool := bif (n : Int) != (m : Int) then false else noneB (fun k => a k != b k) n
def smSt (n m : Nat) (a b : Nat → Int) (k : Int) : St := ⟨26, [(0, .d (.row 1 n (numF a))), (1, .d (.row 1 m (numF b))), (5, iv k)], [], [], [], 0⟩
theorem same_pure (n m : Nat) (hn : n ≤ 1000000) (a b : Nat → Int) : Pure Tryd.prog 35 [.row 1 n (numF a), .row 1 m (numF b)] (bv (sameX n m a b)) := by
  refine pure_list (τ := tab) Tryd.f35 Tryd.func35 (by kernel_rfl) rfl (by kernel_rfl) ?_
  have key0 : (((n : Int) != (m : Int)) = true → Fin (bv false) (bv (sameX n m a b))) ∧ (((n : Int) != (m : Int)) = false → ∃ _ : Unit, ((n : Int) != (m : Int)) = false ∧ some (smSt n m a b 0) = some (smSt n m a b 0)) :=
    ⟨fun h => fin_of (by unfold sameX; rw [h]; rfl), fun h => ⟨(), h, rfl⟩⟩
  refine cutK (τ := tab) (sp := noSpec) mixed noSpec_ok 4 (.keep [0, 1, 5]) (fun _ : Unit => ((n : Int) != (m : Int)) = false) (fun _ => smSt n m a b 0) key0 (by kernel_rfl) fun _ h0 => ?_
  have hX : sameX n m a b = noneB (fun k => a k != b k) n := by unfold sameX; rw [h0]; rfl
  have hnm : n = m := by have := bne_eq_false_iff_eq.1 h0; omega
  rw [hX]
  refine wpL_loop (by kernel_rfl) (fun k : Nat => smSt n m a b k) (fun k => n - k) (fun k => k ≤ n ∧ scan (fun k => a k != b k) (n - k) k = scan (fun k => a k != b k) n 0) (.keep [0, 1, 5]) (.keep []) (fun _ : Unit => noneB (fun k => a k != b k) n = true) (fun _ => ⟨26, [], [], [], [], 0⟩) 0 ⟨Nat.zero_le n, rfl⟩ (fun k hk => ?_) fun _ hy => ?_
  · have key1 := scan_round (fun k => a k != b k) n k (fun R => ((0 : Int) ≤ k ∧ (k : Int) < (n : Int)) ∧ ((0 : Int) ≤ k ∧ (k : Int) < (m : Int)) ∧ R) (bv (noneB (fun k => a k != b k) n)) (smSt n m a b) ⟨26, [], [], [], [], 0⟩ rfl hn hk.1 hk.2 fun h _ r => ⟨⟨by omega, by omega⟩, ⟨by omega, by omega⟩, r⟩
    exact endK (τ := tab) (sp := noSpec) mixed noSpec_ok key1 (by kernel_rfl)
  · exact endK (τ := tab) (sp := noSpec) mixed noSpec_ok (fin_of (y := bv true) (x := bv (noneB (fun k => a k != b k) n)) (by rw [hy])) (by kernel_rfl)
def eSame : Entry := fun args => match args with
  | [.row s n f, .row s' m g] => match Nat.beq s 1 && Nat.beq s' 1 with
    | true => some ([n ≤ 1000000, okNum n f, okNum m g], bv (sameX n m (fun k => numD (f k)) fun k => numD (g k)))
    | false => none
  | _ => none
theorem same_ok : EntryOk Tryd.prog 35 eSame := by
  refine ⟨enters Tryd.f35 Tryd.func35 (by kernel_rfl), fun args ps x h hp => ?_⟩
  unfold eSame at h
  split at h
  · rename_i s n f s' m g
    split at h
    · rename_i hs
      simp only [Option.some.injEq, Prod.mk.injEq] at h
      obtain ⟨rfl, rfl⟩ := h
      rw [Bool.and_eq_true] at hs
      rw [Nat.eq_of_beq_eq_true hs.1, Nat.eq_of_beq_eq_true hs.2]
      have h2 : okNum n f := hp _ (by simp)
      have h3 : okNum m g := hp _ (by simp)
      exact pure_args (same_pure n m (hp _ (by simp)) (fun k => numD (f k)) fun k => numD (g k)) fun N w vs hc => cells_two2 (fun v hv => RDen.row_le hv h2) (fun v hv => RDen.row_le hv h3) hc
    · cases h
  · cases h
theorem same_self (n : Nat) (a : Nat → Int) : sameX n n a a = true := by
  unfold sameX
  rw [show ((n : Int) != (n : Int)) = false by simp, cond_false, noneB_iff]
  intro k _
  simp
theorem okNum_ls (n : Nat) (l : List Int) : okNum n (lsF l) := fun _ _ => rfl

def trdOfRV : RV → Option Trd
  | .agg [a0, a1, a2, a3, a4, a5, a6, a7, a8, a9, a10, a11, a12] =>
    ob (iOf a0) fun b0 => ob (sOf a1) fun b1 => ob (sOf a2) fun b2 => ob (sOf a3) fun b3 => ob (iOf a4) fun b4 => ob (iOf a5) fun b5 => ob (iOf a6) fun b6 => ob (iOf a7) fun b7 => ob (iOf a8) fun b8 => ob (bOf a9) fun b9 => ob (iOf a10) fun b10 => ob (sOf a11) fun b11 => ob (sOf a12) fun b12 =>
    some ⟨b0, b1, b2, b3, b4, b5, b6, b7, b8, b9, b10, b11, b12⟩
  | _ => none
theorem trdOfRV_eq {x : RV} {t : Trd} (h : trdOfRV x = some t) : x = t.rv := by
  unfold trdOfRV at h
  split at h
  · obtain ⟨b0, e0, h⟩ := ob_eq h
    obtain ⟨b1, e1, h⟩ := ob_eq h
    obtain ⟨b2, e2, h⟩ := ob_eq h
    obtain ⟨b3, e3, h⟩ := ob_eq h
    obtain ⟨b4, e4, h⟩ := ob_eq h
    obtain ⟨b5, e5, h⟩ := ob_eq h
    obtain ⟨b6, e6, h⟩ := ob_eq h
    obtain ⟨b7, e7, h⟩ := ob_eq h
    obtain ⟨b8, e8, h⟩ := ob_eq h
    obtain ⟨b9, e9, h⟩ := ob_eq h
    obtain ⟨b10, e10, h⟩ := ob_eq h
    obtain ⟨b11, e11, h⟩ := ob_eq h
    obtain ⟨b12, e12, h⟩ := ob_eq h
    simp only [Option.some.injEq] at h
    subst h
    rw [iOf_eq e0, sOf_eq e1, sOf_eq e2, sOf_eq e3, iOf_eq e4, iOf_eq e5, iOf_eq e6, iOf_eq e7, iOf_eq e8, bOf_eq e9, iOf_eq e10, sOf_eq e11, sOf_eq e12]; rfl
  · cases h
def eT1 (c : Trd → List Prop) (f : Trd → SV) : Entry := fun args => match args with
  | [x] => ob (trdOfRV x) fun t => some (c t, f t)
  | _ => none
theorem eT1_ok {g : FuncId} {c : Trd → List Prop} {f : Trd → SV} (hg : Sim.Enters Tryd.prog g) (h : ∀ t : Trd, (∀ p ∈ c t, p) → Pure Tryd.prog g [t.rv] (f t)) : EntryOk Tryd.prog g (eT1 c f) := by
  refine ⟨hg, fun args ps x hx hp => ?_⟩
  unfold eT1 at hx
  split at hx
  · obtain ⟨t, e, hx⟩ := ob_eq hx
    simp only [Option.some.injEq, Prod.mk.injEq] at hx
    obtain ⟨rfl, rfl⟩ := hx
    rw [trdOfRV_eq e]
    exact h t hp
  · cases hx
theorem to_pure (t : Trd) : Pure Tryd.prog 38 [t.rv] (.d t.rv) :=
  pure_vc (τ := tab) mixed noSpec_ok Tryd.f38 Tryd.func38 (by kernel_rfl) rfl (by kernel_rfl) (fin_of (y := .d t.rv) (x := .d t.rv) rfl) (by kernel_rfl)
theorem of_pure (t : Trd) : Pure Tryd.prog 44 [t.rv] (.d t.rv) :=
  pure_vc (τ := tab) mixed noSpec_ok Tryd.f44 Tryd.func44 (by kernel_rfl) rfl (by kernel_rfl) (fin_of (y := .d t.rv) (x := .d t.rv) rfl) (by kernel_rfl)
theorem to_ok : EntryOk Tryd.prog 38 (eT1 (fun _ => []) fun t => .d t.rv) := eT1_ok (enters Tryd.f38 Tryd.func38 (by kernel_rfl)) fun t _ => to_pure t
theorem of_ok : EntryOk Tryd.prog 44 (eT1 (fun _ => []) fun t => .d t.rv) := eT1_ok (enters Tryd.f44 Tryd.func44 (by kernel_rfl)) fun t _ => of_pure t
def slash : ByteArray := ⟨#[47]⟩
def Trd.id (t : Trd) : ByteArray := (t.del ++ slash) ++ t.r0
def idC (t : Trd) : List Prop := [((t.del.size + slash.size : Nat) : Int) ≤ IntKind.i64.max, (((t.del ++ slash).size + t.r0.size : Nat) : Int) ≤ IntKind.i64.max]
theorem id_pure (t : Trd) (h : ∀ p ∈ idC t, p) : Pure Tryd.prog 47 [t.rv] (.d (vS t.id)) :=
  pure_vc (τ := tab) mixed noSpec_ok Tryd.f47 Tryd.func47 (by kernel_rfl) rfl (by kernel_rfl)
    (⟨h _ List.mem_cons_self, ⟨by decide, by decide⟩, h _ (List.mem_cons_of_mem _ List.mem_cons_self), fin_of (y := .d (vS t.id)) (x := .d (vS t.id)) rfl⟩ : (((t.del.size + slash.size : Nat) : Int) ≤ IntKind.i64.max) ∧ ((0 : Int) ≤ 0 ∧ (0 : Int) < 2) ∧ ((((t.del ++ slash).size + t.r0.size : Nat) : Int) ≤ IntKind.i64.max) ∧ Fin (.d (vS t.id)) (.d (vS t.id))) (by kernel_rfl)
theorem id_ok : EntryOk Tryd.prog 47 (eT1 idC fun t => .d (vS t.id)) := eT1_ok (enters Tryd.f47 Tryd.func47 (by kernel_rfl)) id_pure
end Go.Proofs.YtekifbnnkcgipaaDoor
