/- Contracts of giro/ident's Valid, checkDigits, LEICheckDigits and ISINCheckDigit. Conditions: none. -/
import Derived.Test.YtekifbnnkcgipaaDoorIdF
namespace Go.Proofs.YtekifbnnkcgipaaDoor
open Go.Sim

def eCheck : Entry := fun args => match args with
  | [.val (.int .i64 κ), .val (.string s)] => some ([], .tup [.d (.val (.int .i64 (checkOut κ s).1)), .d (.val (.int .i64 (checkOut κ s).2))])
  | _ => none
theorem eCheck_ok : EntryOk Tryd.prog 20 eCheck := by
  refine ⟨enters Tryd.f20 Tryd.func20 (by kernel_rfl), fun args ps x h hp => ?_⟩
  unfold eCheck at h
  split at h
  · simp only [Option.some.injEq, Prod.mk.injEq] at h
    obtain ⟨rfl, rfl⟩ := h
    exact check_pure _ _
  · cases h
def tabV : List (Nat × Entry) := [(20, eCheck)]
theorem tabV_ok : SpecOk Tryd.prog (table tabV) := table_ok ⟨eCheck_ok, trivial⟩
def validB (κ : Int) (s : ByteArray) : Bool := (checkOut κ s).2 == 0
theorem valid_pure (κ : Int) (s : ByteArray) : Pure Tryd.prog 23 [.val (.int .i64 κ), .val (.string s)] (.d (.val (.bool (validB κ s)))) := by
  refine pure_fn (τ := tab) mixed tabV_ok Tryd.f23 Tryd.func23 (by kernel_rfl) rfl (by kernel_rfl) ?_
  exact ends_ret rfl (by kernel_rfl)
def eValid : Entry := fun args => match args with
  | [.val (.int .i64 κ), .val (.string s)] => some ([], .d (.val (.bool (validB κ s))))
  | _ => none
theorem eValid_ok : EntryOk Tryd.prog 23 eValid := by
  refine ⟨enters Tryd.f23 Tryd.func23 (by kernel_rfl), fun args ps x h hp => ?_⟩
  unfold eValid at h
  split at h
  · simp only [Option.some.injEq, Prod.mk.injEq] at h
    obtain ⟨rfl, rfl⟩ := h
    exact valid_pure _ _
  · cases h
def eRCheck : Entry := fun args => match args with
  | [.val (.int .i64 κ), .val (.string s)] => some ([s.size ≤ 1000], .tup [.d (.val (.int .i64 (checkOut κ s).1)), .d (.val (.int .i64 (checkOut κ s).2))])
  | _ => none
theorem eRCheck_ok : EntryOk Tryd.prog 21 eRCheck := by
  refine ⟨enters Tryd.f21 Tryd.func21 (by kernel_rfl), fun args ps x h hp => ?_⟩
  unfold eRCheck at h
  split at h
  · simp only [Option.some.injEq, Prod.mk.injEq] at h
    obtain ⟨rfl, rfl⟩ := h
    exact rcheck_pure _ _ (hp _ (by simp))
  · cases h

theorem front_begins0 (s : ByteArray) : (frontOut 0 11 11 s).2 = beginsOut 0 11 s := by
  unfold frontOut beginsOut
  cases scan (rbad 0 s) (min s.size 11) 0 with
  | some k => rfl
  | none => cases decide ((s.size : Int) < ((11 : Nat) : Int)) <;> cases decide ((s.size : Int) > ((11 : Nat) : Int)) <;> rfl
def isinD (s : ByteArray) : ByteArray × Int := bif beginsOut 0 11 s != 0 then (⟨#[]⟩, beginsOut 0 11 s) else (itoaStr (luhnD (exps s 11)), 0)
set_option maxRecDepth 100000 in
theorem isinDigits_pure (s : ByteArray) : Pure Tryd.prog 65 [.agg (kindCells 12 spans0 11 (.func (.func 95) #[] #[])), .val (.string s)] (.tup [.d (.val (.string (isinD s).1)), .d (.val (.int .i64 (isinD s).2))]) := by
  refine pure_fn (τ := tab) mixed tabF_ok Tryd.f65 Tryd.func65 (by kernel_rfl) rfl (by kernel_rfl) ?_
  have hpo := prefOut_eq 0 11 (fun k => fnOf (clRow (flatS (spansBy 12)) (0 + k))) 11 s (by decide)
  have hbe : (prefOut 11 (fun k => fnOf (clRow (flatS (spansBy 12)) (0 + k))) 11 s).2 = beginsOut 0 11 s := by rw [hpo, front_begins0]
  clear hpo
  have hn : 11 ≤ 1000 := by decide
  have hcl : ∀ k, k < 11 → isCls (fnOf (clRow (flatS (spansBy 12)) (0 + k))) := by decide
  have hb1 : (0 : Int) ≤ 11 ∧ (11 : Int) ≤ (((flatS (spansBy 12)).length : Nat) : Int) := ⟨by decide, by decide⟩
  refine ⟨rfl, fun k hk => map_span spans0 k hk, .inr ⟨_, rfl⟩, hb1, hn, fun k => rfl, hcl, fun h => ?_, fun h => ?_⟩
  · have h : ((prefOut 11 (fun k => fnOf (clRow (flatS (spansBy 12)) (0 + k))) 11 s).2 != 0) = true := Eq.mp (by kernel_rfl) h
    have e : isinD s = (⟨#[]⟩, beginsOut 0 11 s) := by unfold isinD; rw [← hbe, h]; rfl
    exact ends_ret (y := .tup [.d (.val (.string ⟨#[]⟩)), .d (.val (.int .i64 (prefOut 11 (fun k => fnOf (clRow (flatS (spansBy 12)) (0 + k))) 11 s).2))]) (by rw [e, hbe]) (by kernel_rfl)
  · have h : ((prefOut 11 (fun k => fnOf (clRow (flatS (spansBy 12)) (0 + k))) 11 s).2 != 0) = false := Eq.mp (by kernel_rfl) h
    have h0 : beginsOut 0 11 s = 0 := by rw [← hbe]; exact bne_eq_false_iff_eq.1 h
    have e : isinD s = (itoaStr (luhnD (exps s 11)), 0) := by unfold isinD; rw [← hbe, h]; rfl
    have hsz : s.size = 11 := (begins_alnum (.inl rfl) h0).1
    have hal : alnum s s.size := (begins_alnum (.inl rfl) h0).2
    have hle : s.size ≤ 1000 := by rw [hsz]; decide
    clear h h0 hbe
    refine ⟨hle, hal, ?_⟩
    exact ends_ret (y := .tup [.d (.val (.string (itoaStr (luhnD (exps s s.size))))), .d (.val (.int .i64 0))]) (by rw [e, hsz]) (by kernel_rfl)

theorem front_begins3 (s : ByteArray) : (frontOut 3 18 18 s).2 = beginsOut 3 18 s := by
  unfold frontOut beginsOut
  cases scan (rbad 3 s) (min s.size 18) 0 with
  | some k => rfl
  | none => cases decide ((s.size : Int) < ((18 : Nat) : Int)) <;> cases decide ((s.size : Int) > ((18 : Nat) : Int)) <;> rfl
def leiD (s : ByteArray) : ByteArray × Int := bif beginsOut 3 18 s != 0 then (⟨#[]⟩, beginsOut 3 18 s) else (pairStr (98 - m97 (exps s 18 ++ [0, 0])), 0)
set_option maxRecDepth 100000 in
theorem leiDigits_pure (s : ByteArray) : Pure Tryd.prog 65 [.agg (kindCells 20 spans3 18 (.func (.func 97) #[] #[])), .val (.string s)] (.tup [.d (.val (.string (leiD s).1)), .d (.val (.int .i64 (leiD s).2))]) := by
  refine pure_fn (τ := tab) mixed tabF_ok Tryd.f65 Tryd.func65 (by kernel_rfl) rfl (by kernel_rfl) ?_
  have hpo := prefOut_eq 3 18 (fun k => fnOf (clRow (flatS (spansBy 20)) (0 + k))) 18 s (by decide)
  have hbe : (prefOut 18 (fun k => fnOf (clRow (flatS (spansBy 20)) (0 + k))) 18 s).2 = beginsOut 3 18 s := by rw [hpo, front_begins3]
  clear hpo
  have hn : 18 ≤ 1000 := by decide
  have hcl : ∀ k, k < 18 → isCls (fnOf (clRow (flatS (spansBy 20)) (0 + k))) := by decide
  have hb1 : (0 : Int) ≤ 18 ∧ (18 : Int) ≤ (((flatS (spansBy 20)).length : Nat) : Int) := ⟨by decide, by decide⟩
  refine ⟨rfl, fun k hk => map_span spans3 k hk, .inr ⟨_, rfl⟩, hb1, hn, fun k => rfl, hcl, fun h => ?_, fun h => ?_⟩
  · have h : ((prefOut 18 (fun k => fnOf (clRow (flatS (spansBy 20)) (0 + k))) 18 s).2 != 0) = true := Eq.mp (by kernel_rfl) h
    have e : leiD s = (⟨#[]⟩, beginsOut 3 18 s) := by unfold leiD; rw [← hbe, h]; rfl
    exact ends_ret (y := .tup [.d (.val (.string ⟨#[]⟩)), .d (.val (.int .i64 (prefOut 18 (fun k => fnOf (clRow (flatS (spansBy 20)) (0 + k))) 18 s).2))]) (by rw [e, hbe]) (by kernel_rfl)
  · have h : ((prefOut 18 (fun k => fnOf (clRow (flatS (spansBy 20)) (0 + k))) 18 s).2 != 0) = false := Eq.mp (by kernel_rfl) h
    have h0 : beginsOut 3 18 s = 0 := by rw [← hbe]; exact bne_eq_false_iff_eq.1 h
    have e : leiD s = (pairStr (98 - m97 (exps s 18 ++ [0, 0])), 0) := by unfold leiD; rw [← hbe, h]; rfl
    have hsz : s.size = 18 := (begins_alnum (.inr rfl) h0).1
    have hal : alnum s s.size := (begins_alnum (.inr rfl) h0).2
    have hle : s.size ≤ 1000 := by rw [hsz]; decide
    clear h h0 hbe
    refine ⟨hle, hal, ?_⟩
    exact ends_ret (y := .tup [.d (.val (.string (pairStr (98 - m97 (exps s s.size ++ [0, 0]))))), .d (.val (.int .i64 0))]) (by rw [e, hsz]) (by kernel_rfl)

def isinK : RV := .agg (kindCells 12 spans0 11 (.func (.func 95) #[] #[]))
def leiK : RV := .agg (kindCells 20 spans3 18 (.func (.func 97) #[] #[]))
def eDigits : Entry := fun args => match args with
  | [.agg (.val (.int .i64 a) :: l), .val (.string s)] => match a.toNat with
    | 12 => some ([.agg (.val (.int .i64 a) :: l) = isinK], .tup [.d (.val (.string (isinD s).1)), .d (.val (.int .i64 (isinD s).2))])
    | 20 => some ([.agg (.val (.int .i64 a) :: l) = leiK], .tup [.d (.val (.string (leiD s).1)), .d (.val (.int .i64 (leiD s).2))])
    | _ => none
  | _ => none
theorem eDigits_ok : EntryOk Tryd.prog 65 eDigits := by
  refine ⟨enters Tryd.f65 Tryd.func65 (by kernel_rfl), fun args ps x h hp => ?_⟩
  unfold eDigits at h
  split at h
  · rename_i a l s
    split at h
    · simp only [Option.some.injEq, Prod.mk.injEq] at h
      obtain ⟨rfl, rfl⟩ := h
      have he : RV.agg (.val (.int .i64 a) :: l) = isinK := hp _ (by simp)
      rw [he]
      exact isinDigits_pure s
    · simp only [Option.some.injEq, Prod.mk.injEq] at h
      obtain ⟨rfl, rfl⟩ := h
      have he : RV.agg (.val (.int .i64 a) :: l) = leiK := hp _ (by simp)
      rw [he]
      exact leiDigits_pure s
    · cases h
  · cases h
def tabG : List (Nat × Entry) := [(57, eKinds), (65, eDigits)]
theorem tabG_ok : SpecOk Tryd.prog (table tabG) := table_ok ⟨eKinds_ok, eDigits_ok, trivial⟩
set_option maxRecDepth 100000 in
theorem leiCheck_pure (s : ByteArray) : Pure Tryd.prog 24 [.val (.string s)] (.tup [.d (.val (.string (leiD s).1)), .d (.val (.int .i64 (leiD s).2))]) := by
  refine pure_fn (τ := tab) mixed tabG_ok Tryd.f24 Tryd.func24 (by kernel_rfl) rfl (by kernel_rfl) ?_
  refine ⟨⟨by decide, by decide⟩, ?_, ?_⟩
  · show (_ : RV) = leiK
    kernel_rfl
  · exact ends_ret rfl (by kernel_rfl)
theorem leiD_out (s : ByteArray) : leiD s = leiOut s := rfl
theorem isinD_out {s : ByteArray} (h : ((isinD s).2 != 0) = false) : isinOut s = (byteAt (isinD s).1 0, 0) ∧ (isinD s).1.size = 1 := by
  unfold isinD at h ⊢
  unfold isinOut
  cases hb : beginsOut 0 11 s != 0 with
  | true => rw [hb] at h; simp only [cond_true] at h; rw [hb] at h; cases h
  | false =>
    have hlu := luhnD_lt (exps s 11)
    have e : itoaStr (luhnD (exps s 11)) = digStr [luhnD (exps s 11)] := itoa_small hlu
    simp only [cond_false]
    rw [e, digStr_at (by simpa using hlu) (by simp)]
    exact ⟨rfl, rfl⟩
theorem isinD_err {s : ByteArray} (h : ((isinD s).2 != 0) = true) : isinOut s = (0, (isinD s).2) := by
  unfold isinD at h ⊢
  unfold isinOut
  cases hb : beginsOut 0 11 s != 0 with
  | true => rfl
  | false => rw [hb] at h; cases h
set_option maxRecDepth 100000 in
theorem isinCheck_pure (s : ByteArray) : Pure Tryd.prog 28 [.val (.string s)] (.tup [.d (.val (.int .u8 (isinOut s).1)), .d (.val (.int .i64 (isinOut s).2))]) := by
  refine pure_fn (τ := tab) mixed tabG_ok Tryd.f28 Tryd.func28 (by kernel_rfl) rfl (by kernel_rfl) ?_
  refine ⟨⟨by decide, by decide⟩, ?_, fun h => ?_, fun h => ?_⟩
  · show (_ : RV) = isinK
    kernel_rfl
  · have e := isinD_err (s := s) (Eq.mp (by kernel_rfl) h)
    exact ends_ret (y := .tup [.d (.val (.int .u8 0)), .d (.val (.int .i64 (isinD s).2))]) (by rw [e]) (by kernel_rfl)
  · have h : ((isinD s).2 != 0) = false := Eq.mp (by kernel_rfl) h
    have e := (isinD_out h).1
    have hsz := (isinD_out h).2
    have hb : (0 : Int) ≤ 0 ∧ (0 : Int) < ((isinD s).1.size : Int) := ⟨by decide, by rw [hsz]; decide⟩
    refine ⟨hb, ?_⟩
    exact ends_ret (y := .tup [.d (.val (.int .u8 (byteAt (isinD s).1 0))), .d (.val (.int .i64 0))]) (by rw [e]) (by kernel_rfl)
end Go.Proofs.YtekifbnnkcgipaaDoor
