/- Plain law: the check of an instruction is the reference's. No walk. Conditions: none. -/
import Derived.Test.YtekifbnnkcgipaaDoorMsC
namespace Go.Proofs.YtekifbnnkcgipaaDoor
open Go.Sim

theorem first_cons {a a' : Bool} {e : Int} {l l' : List (Bool × Int)} (h : a = a') (h2 : a = false → firstR l = firstR l') : firstR ((a, e) :: l) = firstR ((a', e) :: l') := by
  subst h
  simp only [firstR]
  cases a with
  | true => rfl
  | false => exact h2 rfl
theorem first_two {a b c : Bool} {e : Int} {l l' : List (Bool × Int)} (h : (a || b) = c) (h2 : a = false → b = false → firstR l = firstR l') : firstR ((a, e) :: (b, e) :: l) = firstR ((c, e) :: l') := by
  subst h
  simp only [firstR]
  cases a with
  | true => rfl
  | false =>
    cases b with
    | true => rfl
    | false => exact h2 rfl rfl
theorem first_three {a b c d : Bool} {e : Int} {l l' : List (Bool × Int)} (h : ((a || b) || c) = d) (h2 : a = false → b = false → c = false → firstR l = firstR l') : firstR ((a, e) :: (b, e) :: (c, e) :: l) = firstR ((d, e) :: l') := by
  subst h
  simp only [firstR]
  cases a with
  | true => rfl
  | false =>
    cases b with
    | true => rfl
    | false =>
      cases c with
      | true => rfl
      | false => exact h2 rfl rfl rfl

theorem valid_size {κ : Int} (h0 : 0 ≤ κ) (h3 : κ ≤ 3) {s : ByteArray} (h : validB κ s = true) : 1 ≤ s.size := by
  have hlo : 1 ≤ loK κ := by unfold loK; cases κ == 0 <;> cases κ == 1 <;> cases κ == 2 <;> simp
  unfold validB checkOut at h
  have hin : (decide (κ < 0) || decide (κ > 3)) = false := by rw [decide_eq_false (by omega), decide_eq_false (by omega)]; rfl
  rw [hin] at h
  simp only [cond_false] at h
  cases hs : scan (rbad κ s) (min s.size (hiK κ)) 0 with
  | some k => rw [hs] at h; cases h
  | none =>
    rw [hs] at h
    simp only at h
    cases h4 : decide ((s.size : Int) < loK κ) with
    | true => rw [h4] at h; cases h
    | false => have := of_decide_eq_false h4; omega

theorem rules_eq (i : Ins) : firstR (rules1 i) = firstR (rrules1 i) := by
  unfold rules1 rrules1
  refine first_cons (by rw [Bool.eq_iff_iff]; simp [wI] <;> omega) fun h1 => ?_
  have hk : 0 ≤ i.kind ∧ i.kind ≤ 4 := by simpa [wI] using h1
  have hc : i.isCol = !i.bil := by unfold Ins.isCol Ins.bil; rw [Bool.eq_iff_iff]; simp; omega
  rw [hc]
  refine first_two rfl fun h2 h3 => ?_
  refine first_cons rfl fun h4 => ?_
  refine first_cons (by simp) fun h5 => ?_
  refine first_cons ?_ fun h6 => ?_
  · cases hb : i.bil with
    | true => rfl
    | false =>
      rw [hb] at h4
      have he : i.cp.toList = emp.toList := by
        have h4' : (!(i.cp.toList == emp.toList)) = false := h4
        exact eq_of_beq (by simpa only [Bool.not_eq_false'] using h4')
      have hs := valid_size (κ := 1) (by decide) (by decide) (by simpa using h3 : validB 1 i.sender = true)
      show (i.cp.toList == i.sender.toList) = false
      refine beq_false_of_ne fun e => ?_
      rw [he, ByteArray.toList_eq, ByteArray.toList_eq] at e
      have : i.sender.data.toList.length = 0 := by rw [← e]; rfl
      have hsz : i.sender.data.toList.length = i.sender.size := Array.length_toList
      omega
  refine first_cons (by rw [Bool.eq_iff_iff]; simp [wI] <;> omega) fun h7 => ?_
  refine first_cons rfl fun h8 => ?_
  refine first_cons ?_ fun h9 => ?_
  · unfold Ins.isAst
    cases hz : i.kind == 0 with
    | true =>
      have : i.kind = 0 := by simpa using hz
      simp [this]
    | false =>
      have : i.kind ≠ 0 := by simpa using hz
      have e : decide (i.kind > 0) = true := by simp; omega
      rw [e]; simp
  refine first_cons ?_ fun h10 => ?_
  · unfold bndB
    cases hz : i.kind == 0 with
    | true =>
      have : i.kind = 0 := by simpa using hz
      rw [this]; simp [bne]
    | false =>
      have : i.kind ≠ 0 := by simpa using hz
      have e : decide (i.kind > 0) = true := by simp; omega
      have e2 : (i.kind != 0) = true := by simpa using this
      rw [e, e2, Bool.eq_iff_iff]; simp [wI, most] <;> omega
  refine first_cons ?_ fun h11 => ?_
  · unfold bndB
    cases hz : ((i.kind == 0) || (i.kind == 1)) with
    | true =>
      have : i.kind = 0 ∨ i.kind = 1 := by simpa using hz
      have e : decide (i.kind < 2) = true := by simp; omega
      have e2 : decide (i.kind ≥ 2) = false := by simp; omega
      rw [e, e2, Bool.eq_iff_iff]; simp [wI, most] <;> omega
    | false =>
      have : ¬ (i.kind = 0 ∨ i.kind = 1) := by simpa using hz
      have e : decide (i.kind < 2) = false := by simp; omega
      have e2 : decide (i.kind ≥ 2) = true := by simp; omega
      rw [e, e2]; simp [bne]
  refine first_two ?_ fun h12 h13 => ?_
  · rw [Bool.or_assoc]
    refine congr (congrArg _ rfl) (congr (congrArg _ ?_) rfl)
    refine congrArg _ ?_
    rw [Bool.eq_iff_iff]; simp [wI] <;> omega
  refine first_cons ?_ fun h14 => ?_
  · refine congr (congrArg _ ?_) rfl
    rw [Bool.eq_iff_iff]; simp [wI] <;> omega
  refine first_cons rfl fun h15 => ?_
  refine first_cons ?_ fun h16 => ?_
  · unfold Ins.maxLot
    cases hp : i.part with
    | true =>
      rw [Bool.eq_iff_iff]; simp [wI] <;> omega
    | false =>
      rw [Bool.eq_iff_iff]; simp [wI] <;> omega
  refine first_three rfl fun h17 h18 h19 => ?_
  exact first_cons rfl fun _ => rfl

theorem link_eq (i : Ins) (k : Nat) : bad2 i k = rbad1 i k ∧ (bad2 i k = true → firstR (rules2 i k) = rerr i k) := by
  have e : (!(wI (i.lt k) 0 1)) = ((i.lt k != 0) && (i.lt k != 1)) := by rw [Bool.eq_iff_iff]; simp [wI]; omega
  have h : firstR (rules2 i k) = bif firstR (rlink i k) != 0 then firstR (rlink i k) else bif hasRef k i.lr (i.lr k) then 7 else 0 := by
    unfold rules2 rlink
    rw [e]
    simp only [firstR]
    cases ((i.lt k != 0) && (i.lt k != 1)) <;> cases (!(validB 2 (i.lr k))) <;> cases ((i.lr k).toList == i.ref.toList) <;> rfl
  unfold bad2 rbad1 rerr
  rw [h]
  cases hf : firstR (rlink i k) != 0 with
  | true => simp only [cond_true, hf]; exact ⟨rfl, fun _ => trivial⟩
  | false =>
    simp only [cond_false]
    cases hasRef k i.lr (i.lr k) with
    | true => exact ⟨rfl, fun _ => rfl⟩
    | false => exact ⟨rfl, fun h => by cases h⟩
theorem scan_true {p : Nat → Bool} : ∀ {m k j : Nat}, scan p m k = some j → p j = true
  | m + 1, k, j, h => by
    simp only [scan] at h
    cases hp : p k with
    | true =>
      rw [hp] at h
      simp only [cond_true, Option.some.injEq] at h
      rw [← h]; exact hp
    | false =>
      rw [hp] at h
      exact scan_true (h : scan p m (k + 1) = some j)
/-- The check is the reference's. -/
theorem check_ref (i : Ins) : msgCheck i = refCheck i := by
  unfold msgCheck refCheck
  rw [rules_eq]
  have e : bad2 i = rbad1 i := funext fun k => (link_eq i k).1
  rw [← e]
  cases hs : scan (bad2 i) i.ln 0 with
  | none => rfl
  | some k => exact congrArg (fun v => bif firstR (rrules1 i) != 0 then firstR (rrules1 i) else v) ((link_eq i k).2 (scan_true hs))
end Go.Proofs.YtekifbnnkcgipaaDoor
