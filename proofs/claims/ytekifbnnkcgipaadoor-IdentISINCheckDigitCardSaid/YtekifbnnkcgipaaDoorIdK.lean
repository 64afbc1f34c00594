/- Contracts of girolaw05's known, digit, with and of its laws: each law returns true. Conditions: none. -/
import Derived.Test.YtekifbnnkcgipaaDoorIdP
import Derived.Test.YtekifbnnkcgipaaDoorSimR
namespace Go.Proofs.YtekifbnnkcgipaaDoor
open Go.Sim

def eLei : Entry := fun args => match args with
  | [.val (.string s)] => some ([], .tup [.d (.val (.string (leiD s).1)), .d (.val (.int .i64 (leiD s).2))])
  | _ => none
theorem eLei_ok : EntryOk Tryd.prog 24 eLei := by
  refine ⟨enters Tryd.f24 Tryd.func24 (by kernel_rfl), fun args ps x h hp => ?_⟩
  unfold eLei at h
  split at h
  · simp only [Option.some.injEq, Prod.mk.injEq] at h
    obtain ⟨rfl, rfl⟩ := h
    exact leiCheck_pure _
  · cases h
def eIsin : Entry := fun args => match args with
  | [.val (.string s)] => some ([], .tup [.d (.val (.int .u8 (isinOut s).1)), .d (.val (.int .i64 (isinOut s).2))])
  | _ => none
theorem eIsin_ok : EntryOk Tryd.prog 28 eIsin := by
  refine ⟨enters Tryd.f28 Tryd.func28 (by kernel_rfl), fun args ps x h hp => ?_⟩
  unfold eIsin at h
  split at h
  · simp only [Option.some.injEq, Prod.mk.injEq] at h
    obtain ⟨rfl, rfl⟩ := h
    exact isinCheck_pure _
  · cases h
def eRLei : Entry := fun args => match args with
  | [.val (.string s)] => some ([], .tup [.d (.val (.string (leiOut s).1)), .d (.val (.int .i64 (leiOut s).2))])
  | _ => none
theorem eRLei_ok : EntryOk Tryd.prog 25 eRLei := by
  refine ⟨enters Tryd.f25 Tryd.func25 (by kernel_rfl), fun args ps x h hp => ?_⟩
  unfold eRLei at h
  split at h
  · simp only [Option.some.injEq, Prod.mk.injEq] at h
    obtain ⟨rfl, rfl⟩ := h
    exact rlei_pure _
  · cases h
def eRIsin : Entry := fun args => match args with
  | [.val (.string s)] => some ([], .tup [.d (.val (.int .u8 (isinOut s).1)), .d (.val (.int .i64 (isinOut s).2))])
  | _ => none
theorem eRIsin_ok : EntryOk Tryd.prog 29 eRIsin := by
  refine ⟨enters Tryd.f29 Tryd.func29 (by kernel_rfl), fun args ps x h hp => ?_⟩
  unfold eRIsin at h
  split at h
  · simp only [Option.some.injEq, Prod.mk.injEq] at h
    obtain ⟨rfl, rfl⟩ := h
    exact risin_pure _
  · cases h

def tabN : List (Nat × Entry) := [(20, eCheck), (24, eLei), (23, eValid)]
theorem tabN_ok : SpecOk Tryd.prog (table tabN) := table_ok ⟨eCheck_ok, eLei_ok, eValid_ok, trivial⟩
set_option maxRecDepth 100000 in
theorem known_pure : Pure Tryd.prog 22 [] (.d (.val (.bool true))) := by
  refine pure_fn (τ := tab) mixed tabN_ok Tryd.f22 Tryd.func22 (by kernel_rfl) rfl (by kernel_rfl) ?_
  exact ⟨trivial, by kernel_rfl⟩
def eKnown : Entry := fun args => match args with
  | [] => some ([], .d (.val (.bool true)))
  | _ => none
theorem eKnown_ok : EntryOk Tryd.prog 22 eKnown := by
  refine ⟨enters Tryd.f22 Tryd.func22 (by kernel_rfl), fun args ps x h hp => ?_⟩
  unfold eKnown at h
  split at h
  · simp only [Option.some.injEq, Prod.mk.injEq] at h
    obtain ⟨rfl, rfl⟩ := h
    exact known_pure
  · cases h

theorem ldigit_pure (c : Int) : Pure Tryd.prog 26 [.val (.int .u8 c)] (.d (.val (.bool (digB c)))) :=
  pure_vc (τ := tab) mixed noSpec_ok Tryd.f26 Tryd.func26 (by kernel_rfl) rfl (by kernel_rfl) (fin_of (y := .d (.val (.bool (digB c)))) rfl) (by kernel_rfl)
theorem ldigit_ok : EntryOk Tryd.prog 26 (eByte digB) := eByte_ok (enters Tryd.f26 Tryd.func26 (by kernel_rfl)) ldigit_pure

/-- Byte i replaced by c. -/
def withS (s : ByteArray) (i : Nat) (c : Int) : ByteArray := s.extract 0 i ++ strOfNums [c] ++ s.extract (i + 1) s.size
theorem imax_le {n : Nat} (h : n ≤ 1000000) : (n : Int) ≤ IntKind.i64.max := by rw [show IntKind.i64.max = 9223372036854775807 from rfl]; omega
theorem with_pure (s : ByteArray) (i : Nat) (c : Int) (hi : i < s.size) (hs : s.size ≤ 1000) : Pure Tryd.prog 27 [.val (.string s), .val (.int .i64 i), .val (.int .u8 c)] (.d (.val (.string (withS s i c)))) := by
  have hw : IntKind.i64.wrap ((i : Int) + 1) = ((i + 1 : Nat) : Int) := by rw [IntWalk.i64_in _ ⟨by omega, by omega⟩]; omega
  have h1 : (s.extract 0 i).size ≤ 1000 := by rw [size_extract]; omega
  have h2 : (strOfNums [c]).size = 1 := strOfNums_size _
  have e : s.extract 0 i ++ strOfNums [c] ++ s.extract (IntKind.i64.wrap ((i : Int) + 1)).toNat s.size = withS s i c := by rw [hw]; rfl
  have key : ((0 : Int) ≤ i ∧ (i : Int) ≤ (s.size : Int)) ∧ ((((s.extract 0 i).size + (strOfNums [c]).size : Nat) : Int) ≤ IntKind.i64.max) ∧ (0 ≤ IntKind.i64.wrap ((i : Int) + 1) ∧ IntKind.i64.wrap ((i : Int) + 1) ≤ (s.size : Int)) ∧
      ((((s.extract 0 i ++ strOfNums [c]).size + (s.extract (IntKind.i64.wrap ((i : Int) + 1)).toNat s.size).size : Nat) : Int) ≤ IntKind.i64.max) ∧
      Fin (.d (.val (.string (s.extract 0 i ++ strOfNums [c] ++ s.extract (IntKind.i64.wrap ((i : Int) + 1)).toNat s.size)))) (.d (.val (.string (withS s i c)))) := by
    refine ⟨⟨by omega, by omega⟩, imax_le (by omega), ⟨by omega, by omega⟩, imax_le ?_, fin_of (by rw [e])⟩
    rw [size_append, hw, Int.toNat_natCast, size_extract s (i + 1)]; omega
  exact pure_vc (τ := tab) mixed noSpec_ok Tryd.f27 Tryd.func27 (by kernel_rfl) rfl (by kernel_rfl) key (by kernel_rfl)
def eWith : Entry := fun args => match args with
  | [.val (.string s), .val (.int .i64 i), .val (.int .u8 c)] => some ([0 ≤ i ∧ i < (s.size : Int), s.size ≤ 1000], .d (.val (.string (withS s i.toNat c))))
  | _ => none
theorem eWith_ok : EntryOk Tryd.prog 27 eWith := by
  refine ⟨enters Tryd.f27 Tryd.func27 (by kernel_rfl), fun args ps x h hp => ?_⟩
  unfold eWith at h
  split at h
  · rename_i s i c
    simp only [Option.some.injEq, Prod.mk.injEq] at h
    obtain ⟨rfl, rfl⟩ := h
    have h1 : 0 ≤ i ∧ i < (s.size : Int) := hp _ (by simp)
    have := with_pure s i.toNat c (by omega) (hp _ (by simp))
    rwa [show ((i.toNat : Nat) : Int) = i by omega] at this
  · cases h
theorem withS_size {s : ByteArray} {i : Nat} {c : Int} (hi : i < s.size) : (withS s i c).size = s.size := by
  unfold withS
  rw [size_append, size_append, size_extract, size_extract, strOfNums_size]
  simp only [List.length_singleton]; omega
theorem byteAt_one {c : Int} (h : 0 ≤ c ∧ c < 256) : byteAt (strOfNums [c]) 0 = c := by
  have : (UInt8.ofNat c.toNat).toNat = c.toNat := by rw [UInt8.toNat_ofNat']; omega
  show (((UInt8.ofNat c.toNat).toNat : Nat) : Int) = c
  rw [this]; omega
theorem withS_at {s : ByteArray} {i : Nat} {c : Int} (hi : i < s.size) (hc : 0 ≤ c ∧ c < 256) : byteAt (withS s i c) i = c := by
  unfold withS
  have h1 : (s.extract 0 i).size = i := by rw [size_extract]; omega
  rw [byteAt_append_left (by rw [size_append, strOfNums_size, h1]; simp)]
  have := byteAt_append_right (s := s.extract 0 i) (t := strOfNums [c]) (k := 0)
  rw [h1, Nat.add_zero] at this
  rw [this, byteAt_one hc]
theorem byteAt_out {s : ByteArray} {k : Nat} (h : s.size ≤ k) : byteAt s k = 0 := by
  unfold byteAt
  rw [Array.getD_eq_getD_getElem?, Array.getElem?_eq_none h]; rfl
theorem withS_but {s : ByteArray} {i : Nat} {c : Int} (hi : i < s.size) : agreeBut s (withS s i c) i := by
  intro k hk
  have h1 : (s.extract 0 i).size = i := by rw [size_extract]; omega
  have h2 : (s.extract 0 i ++ strOfNums [c]).size = i + 1 := by rw [size_append, strOfNums_size, h1]; rfl
  rcases Nat.lt_or_ge k s.size with hlt | hge
  · unfold withS
    rcases Nat.lt_or_ge k i with h | h
    · rw [byteAt_append_left (by rw [h2]; omega), byteAt_append_left (by rw [h1]; exact h), byteAt_extract (by omega) (by omega), Nat.zero_add]
    · obtain ⟨j, rfl⟩ : ∃ j, k = i + 1 + j := ⟨k - (i + 1), by omega⟩
      have := byteAt_append_right (s := s.extract 0 i ++ strOfNums [c]) (t := s.extract (i + 1) s.size) (k := j)
      rw [h2] at this
      rw [this, byteAt_extract (Nat.le_refl _) (by omega)]
  · rw [byteAt_out hge, byteAt_out (by rw [withS_size hi]; exact hge)]

/-- At most 100 bytes. -/
def cut100 (s : ByteArray) : ByteArray := s.extract 0 (min (s.size : Int) 100).toNat
theorem cut100_le (s : ByteArray) : (cut100 s).size ≤ 100 := by unfold cut100; rw [size_extract]; omega
theorem cut_bound (s : ByteArray) : (0 : Int) ≤ min (s.size : Int) 100 ∧ min (s.size : Int) 100 ≤ (s.size : Int) := ⟨by omega, by omega⟩
abbrev CutB (s : ByteArray) : Prop := (0 : Int) ≤ min (s.size : Int) 100 ∧ min (s.size : Int) 100 ≤ (s.size : Int)
abbrev bv (b : Bool) : SV := .d (.val (.bool b))
abbrev FinT (b : Bool) : Prop := Fin (bv b) (bv true)
theorem finT {b : Bool} (h : b = true) : FinT b := fin_of (by rw [h])

def tabC : List (Nat × Entry) := [(20, eCheck), (21, eRCheck), (22, eKnown), (23, eValid), (24, eLei), (25, eRLei),
  (28, eIsin), (29, eRIsin), (26, eByte digB), (27, eWith)]
theorem tabC_ok : SpecOk Tryd.prog (table tabC) := table_ok ⟨eCheck_ok, eRCheck_ok, eKnown_ok, eValid_ok, eLei_ok, eRLei_ok, eIsin_ok, eRIsin_ok, ldigit_ok, eWith_ok, trivial⟩

set_option maxRecDepth 100000 in
theorem identCheck_pure (κ : Int) (s : ByteArray) : Pure Tryd.prog 3 [.val (.int .i64 κ), .val (.string s)] (.d (.val (.bool true))) := by
  have key : CutB s ∧ ((cut100 s).size ≤ 1000) ∧ FinT (((true && ((checkOut κ (cut100 s)).1 == (checkOut κ (cut100 s)).1)) && ((checkOut κ (cut100 s)).2 == (checkOut κ (cut100 s)).2)) && (validB κ (cut100 s) == ((checkOut κ (cut100 s)).2 == 0))) :=
    ⟨cut_bound s, by have := cut100_le s; omega, finT (by unfold validB; rw [beq_self_eq_true, beq_self_eq_true, beq_self_eq_true]; rfl)⟩
  exact pure_vc (τ := tab) mixed tabC_ok Tryd.f3 Tryd.func3 (by kernel_rfl) rfl (by kernel_rfl) key (by kernel_rfl)

theorem lei_done {t : ByteArray} (h : ((leiOut t).2 != 0) = false) : validB 3 (t ++ (leiOut t).1) = true := by
  unfold leiOut at h ⊢
  cases hb : beginsOut 3 18 t != 0 with
  | true =>
    rw [hb] at h
    simp only [cond_true] at h
    rw [hb] at h; cases h
  | false =>
    simp only [cond_false]
    have h0 : beginsOut 3 18 t = 0 := bne_eq_false_iff_eq.1 hb
    rw [lei_one t (d := 98 - m97 (exps t 18 ++ [0, 0])) (by omega), h0]
    simp
theorem isin_done {t : ByteArray} (h : ((isinOut t).2 != 0) = false) : validB 0 (t ++ strOfNums [(isinOut t).1]) = true := by
  unfold isinOut at h ⊢
  cases hb : beginsOut 0 11 t != 0 with
  | true =>
    rw [hb] at h
    simp only [cond_true] at h
    rw [hb] at h; cases h
  | false =>
    simp only [cond_false]
    have h0 : beginsOut 0 11 t = 0 := bne_eq_false_iff_eq.1 hb
    have hlu := luhnD_lt (exps t 11)
    have e : strOfNums [48 + ((luhnD (exps t 11) : Nat) : Int)] = digStr [luhnD (exps t 11)] := by
      generalize luhnD (exps t 11) = d
      unfold strOfNums digStr asc
      simp only [List.map]
      rw [show ((48 + (d : Int)).toNat) = 48 + d by omega]
    rw [e, isin_one t hlu, h0]
    simp
theorem leiOut_size (t : ByteArray) : (leiOut t).1.size ≤ 2 := by
  unfold leiOut
  cases beginsOut 3 18 t != 0
  · show (pairStr _).size ≤ 2
    unfold pairStr; rw [digStr_size]; simp
  · exact Nat.zero_le 2

set_option maxRecDepth 100000 in
theorem leiDigits_law (s : ByteArray) : Pure Tryd.prog 4 [.val (.string s)] (.d (.val (.bool true))) := by
  have key : CutB s ∧ (((!((leiD (cut100 s)).1.toList == (leiOut (cut100 s)).1.toList) || ((leiD (cut100 s)).2 != (leiOut (cut100 s)).2)) = true → FinT false) ∧ ((!((leiD (cut100 s)).1.toList == (leiOut (cut100 s)).1.toList) || ((leiD (cut100 s)).2 != (leiOut (cut100 s)).2)) = false →
      (((leiOut (cut100 s)).2 != 0) = false → (((cut100 s).size + (leiD (cut100 s)).1.size : Nat) : Int) ≤ IntKind.i64.max) ∧ FinT (true && (((leiOut (cut100 s)).2 != 0) || validB 3 (cut100 s ++ (leiD (cut100 s)).1))))) := by
    have hc := cut100_le s
    generalize cut100 s = t at *
    rw [leiD_out]
    have hl := leiOut_size t
    refine ⟨cut_bound s, fun h => ?_, fun _ => ⟨fun _ => imax_le (by omega), finT ?_⟩⟩
    · rw [beq_self_eq_true, bne_self_eq_false] at h; cases h
    · cases h : (leiOut t).2 != 0 with
      | true => rfl
      | false => rw [lei_done h]; rfl
  exact pure_vc (τ := tab) mixed tabC_ok Tryd.f4 Tryd.func4 (by kernel_rfl) rfl (by kernel_rfl) key (by kernel_rfl)
set_option maxRecDepth 100000 in
theorem isinDigit_law (s : ByteArray) : Pure Tryd.prog 9 [.val (.string s)] (.d (.val (.bool true))) := by
  have key : CutB s ∧ (((((isinOut (cut100 s)).1 != (isinOut (cut100 s)).1) || ((isinOut (cut100 s)).2 != (isinOut (cut100 s)).2)) = true → FinT false) ∧ ((((isinOut (cut100 s)).1 != (isinOut (cut100 s)).1) || ((isinOut (cut100 s)).2 != (isinOut (cut100 s)).2)) = false →
      (((isinOut (cut100 s)).2 != 0) = false → (((cut100 s).size + (strOfNums [(isinOut (cut100 s)).1]).size : Nat) : Int) ≤ IntKind.i64.max) ∧ FinT (true && (((isinOut (cut100 s)).2 != 0) || validB 0 (cut100 s ++ strOfNums [(isinOut (cut100 s)).1]))))) := by
    have hc := cut100_le s
    generalize cut100 s = t at *
    refine ⟨cut_bound s, fun h => ?_, fun _ => ⟨fun _ => imax_le (by rw [strOfNums_size]; simp only [List.length_singleton]; omega), finT ?_⟩⟩
    · rw [bne_self_eq_false, bne_self_eq_false] at h; cases h
    · cases h : (isinOut t).2 != 0 with
      | true => rfl
      | false => rw [isin_done h]; rfl
  exact pure_vc (τ := tab) mixed tabC_ok Tryd.f9 Tryd.func9 (by kernel_rfl) rfl (by kernel_rfl) key (by kernel_rfl)
end Go.Proofs.YtekifbnnkcgipaaDoor
