/- girolaw05's laws on substitutions and prefixes: each returns true. Conditions: none. -/
import Derived.Test.YtekifbnnkcgipaaDoorIdS
namespace Go.Proofs.YtekifbnnkcgipaaDoor
open Go.Sim

theorem tmod_small {a : Int} (h0 : 0 ≤ a) (h1 : a < 256) (n : Int) (hn : 0 < n) : 0 ≤ (IntKind.i64.wrap a).tmod n ∧ (IntKind.i64.wrap a).tmod n < n := by
  rw [IntWalk.i64_in _ ⟨by omega, by omega⟩, Int.tmod_eq_emod_of_nonneg h0]
  exact ⟨Int.emod_nonneg _ (by omega), Int.emod_lt_of_pos _ hn⟩
theorem rep_digit {b : Int} (h0 : 0 ≤ b) : ∃ d : Nat, d < 10 ∧ IntKind.u8.wrap (48 + b.tmod 10) = 48 + (d : Int) := by
  rw [Int.tmod_eq_emod_of_nonneg h0]
  refine ⟨(b % 10).toNat, by omega, ?_⟩
  rw [IntWalk.u8_in _ ⟨by omega, by omega⟩]; omega
theorem rep_letter {b : Int} (h0 : 0 ≤ b) : 65 ≤ IntKind.u8.wrap (65 + b.tmod 26) ∧ IntKind.u8.wrap (65 + b.tmod 26) ≤ 90 := by
  rw [Int.tmod_eq_emod_of_nonneg h0, IntWalk.u8_in _ ⟨by omega, by omega⟩]; omega
theorem validB_of {κ : Int} {s : ByteArray} (h : validB κ s = true) : (checkOut κ s).2 = 0 := by unfold validB at h; exact beq_iff_eq.1 h
theorem validB_not {κ : Int} {s : ByteArray} (h : (checkOut κ s).2 ≠ 0) : validB κ s = false := by unfold validB; exact beq_false_of_ne h

set_option maxRecDepth 100000 in
theorem isinSub_law (s : ByteArray) (a b : Int) (ha : 0 ≤ a ∧ a < 256) (hb : 0 ≤ b ∧ b < 256) : Pure Tryd.prog 6 [.val (.string s), .val (.int .u8 a), .val (.int .u8 b)] (.d (.val (.bool true))) := by
  have key : ((((s.size : Int) != 12) || !(validB 0 s)) = true → FinT true) ∧ ((((s.size : Int) != 12) || !(validB 0 s)) = false → ((12 : Int) ≠ 0) ∧ ((10 : Int) ≠ 0) ∧
      (0 ≤ (IntKind.i64.wrap a).tmod 12 ∧ (IntKind.i64.wrap a).tmod 12 < (s.size : Int)) ∧
      ((!(digB (byteAt s ((IntKind.i64.wrap a).tmod 12).toNat))) = false → 0 ≤ (IntKind.i64.wrap a).tmod 12 ∧ (IntKind.i64.wrap a).tmod 12 < (s.size : Int)) ∧
      ((!(digB (byteAt s ((IntKind.i64.wrap a).tmod 12).toNat)) || (byteAt s ((IntKind.i64.wrap a).tmod 12).toNat == IntKind.u8.wrap (48 + b.tmod 10))) = true → FinT true) ∧
      ((!(digB (byteAt s ((IntKind.i64.wrap a).tmod 12).toNat)) || (byteAt s ((IntKind.i64.wrap a).tmod 12).toNat == IntKind.u8.wrap (48 + b.tmod 10))) = false →
        (true = true → 0 ≤ (IntKind.i64.wrap a).tmod 12 ∧ (IntKind.i64.wrap a).tmod 12 < (s.size : Int)) ∧ (true = true → s.size ≤ 1000) ∧
        FinT (true && !(validB 0 (withS s ((IntKind.i64.wrap a).tmod 12).toNat (IntKind.u8.wrap (48 + b.tmod 10))))))) := by
    have hi := tmod_small ha.1 ha.2 12 (by decide)
    obtain ⟨d, hd, e⟩ := rep_digit hb.1
    rw [e]
    generalize (IntKind.i64.wrap a).tmod 12 = i at *
    refine ⟨fun _ => finT rfl, fun h => ?_⟩
    simp only [Bool.or_eq_false_iff, bne_eq_false_iff_eq, Bool.not_eq_false'] at h
    have hs : s.size = 12 := by omega
    have hr : 0 ≤ i ∧ i < (s.size : Int) := by omega
    refine ⟨by decide, ne10, hr, fun _ => hr, fun _ => finT rfl, fun hc => ⟨fun _ => hr, fun _ => by omega, finT ?_⟩⟩
    simp only [Bool.or_eq_false_iff, Bool.not_eq_false', beq_eq_false_iff_ne] at hc
    have hlt : i.toNat < s.size := by omega
    have := isin_replaced (i := i.toNat) (by omega) (withS_but (c := 48 + (d : Int)) hlt) (validB_of h.2) hc.1 (by rw [withS_at hlt ⟨by omega, by omega⟩]; exact digB_small hd) (by rw [withS_at hlt ⟨by omega, by omega⟩]; exact hc.2)
    rw [validB_not this]; rfl
  exact pure_vc (τ := tab) mixed tabC_ok Tryd.f6 Tryd.func6 (by kernel_rfl) rfl (by kernel_rfl) key (by kernel_rfl)

/-- Behind the choice of the character. -/
def lsSt (s : ByteArray) (i c : Int) : St := ⟨85, [(0, .d (.val (.string s))), (7, .d (.val (.int .i64 i))), (8, .d (.val (.int .u8 c)))], [], [], [], 0⟩
def lsJ (s : ByteArray) (i c : Int) : Prop := 0 ≤ c ∧ c < 256 ∧ s.size = 20 ∧ validB 3 s = true ∧ (digB (byteAt s i.toNat) = true → digB c = true) ∧ (digB (byteAt s i.toNat) = false → letB c = true)
theorem alnum_lei {s : ByteArray} (h : validB 3 s = true) {k : Nat} (hk : k < 20) : digB (byteAt s k) = true ∨ letB (byteAt s k) = true :=
  may_alnum (.inr rfl) (((lei_iff s).1 (validB_of h)).2.1 k hk)

set_option maxRecDepth 100000 in
set_option maxHeartbeats 1000000 in
theorem leiSub_law (s : ByteArray) (a b : Int) (ha : 0 ≤ a ∧ a < 256) (hb : 0 ≤ b ∧ b < 256) : Pure Tryd.prog 7 [.val (.string s), .val (.int .u8 a), .val (.int .u8 b)] (.d (.val (.bool true))) := by
  refine pure_list (τ := tab) Tryd.f7 Tryd.func7 (by kernel_rfl) rfl (by kernel_rfl) ?_
  have key1 : ((((s.size : Int) != 20) || !(validB 3 s)) = true → FinT true) ∧ ((((s.size : Int) != 20) || !(validB 3 s)) = false → ((20 : Int) ≠ 0) ∧ ((26 : Int) ≠ 0) ∧
      (0 ≤ (IntKind.i64.wrap a).tmod 20 ∧ (IntKind.i64.wrap a).tmod 20 < (s.size : Int)) ∧
      (digB (byteAt s ((IntKind.i64.wrap a).tmod 20).toNat) = true → ((10 : Int) ≠ 0) ∧ ∃ c, lsJ s ((IntKind.i64.wrap a).tmod 20) c ∧ some (lsSt s ((IntKind.i64.wrap a).tmod 20) (IntKind.u8.wrap (48 + b.tmod 10))) = some (lsSt s ((IntKind.i64.wrap a).tmod 20) c)) ∧
      (digB (byteAt s ((IntKind.i64.wrap a).tmod 20).toNat) = false → ∃ c, lsJ s ((IntKind.i64.wrap a).tmod 20) c ∧ some (lsSt s ((IntKind.i64.wrap a).tmod 20) (IntKind.u8.wrap (65 + b.tmod 26))) = some (lsSt s ((IntKind.i64.wrap a).tmod 20) c))) := by
    have hi := tmod_small ha.1 ha.2 20 (by decide)
    obtain ⟨d, hd, e⟩ := rep_digit hb.1
    have hl := rep_letter hb.1
    rw [e]
    generalize IntKind.u8.wrap (65 + b.tmod 26) = z at *
    generalize (IntKind.i64.wrap a).tmod 20 = i at *
    refine ⟨fun _ => finT rfl, fun h => ?_⟩
    simp only [Bool.or_eq_false_iff, bne_eq_false_iff_eq, Bool.not_eq_false'] at h
    have hs : s.size = 20 := by omega
    have hr : 0 ≤ i ∧ i < (s.size : Int) := by omega
    refine ⟨by decide, by decide, hr, fun hc => ⟨ne10, _, ⟨by omega, by omega, hs, h.2, fun _ => digB_small hd, fun hf => ?_⟩, rfl⟩, fun hc => ⟨_, ⟨by omega, by omega, hs, h.2, fun hf => ?_, fun _ => (letB_iff _).2 hl⟩, rfl⟩⟩
    · rw [hc] at hf; cases hf
    · rw [hc] at hf; cases hf
  have hi := tmod_small ha.1 ha.2 20 (by decide)
  refine wpL_cut (τ := tab) (sp := table tabC) mixed tabC_ok 7 (.keep [0, 7, 8]) (lsJ s ((IntKind.i64.wrap a).tmod 20)) (lsSt s ((IntKind.i64.wrap a).tmod 20)) (Eq.mp (by kernel_rfl) key1) fun c hc => ?_
  generalize (IntKind.i64.wrap a).tmod 20 = i at *
  obtain ⟨hc0, hc1, hs, hv, hdd, hdl⟩ := hc
  have key2 : (0 ≤ i ∧ i < (s.size : Int)) ∧ ((byteAt s i.toNat != c) = true → 0 ≤ i ∧ i < (s.size : Int)) ∧ ((byteAt s i.toNat != c) = true → s.size ≤ 1000) ∧
      (((byteAt s i.toNat != c) && validB 3 (withS s i.toNat c)) = true → FinT false) ∧
      (((byteAt s i.toNat != c) && validB 3 (withS s i.toNat c)) = false →
        (decide (i < 19) = true → 0 ≤ i ∧ i < (s.size : Int)) ∧ (decide (i < 19) = true → 0 ≤ IntKind.i64.wrap (i + 1) ∧ IntKind.i64.wrap (i + 1) < (s.size : Int)) ∧
        ((decide (i < 19) && (byteAt s i.toNat != byteAt s (IntKind.i64.wrap (i + 1)).toNat)) = true → 0 ≤ i ∧ i < (s.size : Int)) ∧
        (((decide (i < 19) && (byteAt s i.toNat != byteAt s (IntKind.i64.wrap (i + 1)).toNat)) && digB (byteAt s i.toNat)) = true → 0 ≤ IntKind.i64.wrap (i + 1) ∧ IntKind.i64.wrap (i + 1) < (s.size : Int)) ∧
        ((((decide (i < 19) && (byteAt s i.toNat != byteAt s (IntKind.i64.wrap (i + 1)).toNat)) && digB (byteAt s i.toNat)) && digB (byteAt s (IntKind.i64.wrap (i + 1)).toNat)) = true → 0 ≤ IntKind.i64.wrap (i + 1) ∧ IntKind.i64.wrap (i + 1) < (s.size : Int)) ∧
        ((((decide (i < 19) && (byteAt s i.toNat != byteAt s (IntKind.i64.wrap (i + 1)).toNat)) && digB (byteAt s i.toNat)) && digB (byteAt s (IntKind.i64.wrap (i + 1)).toNat)) = true → 0 ≤ i ∧ i < (s.size : Int)) ∧
        ((((decide (i < 19) && (byteAt s i.toNat != byteAt s (IntKind.i64.wrap (i + 1)).toNat)) && digB (byteAt s i.toNat)) && digB (byteAt s (IntKind.i64.wrap (i + 1)).toNat)) = true → s.size ≤ 1000) ∧
        ((((decide (i < 19) && (byteAt s i.toNat != byteAt s (IntKind.i64.wrap (i + 1)).toNat)) && digB (byteAt s i.toNat)) && digB (byteAt s (IntKind.i64.wrap (i + 1)).toNat)) = true → 0 ≤ i ∧ i < (s.size : Int)) ∧
        ((((decide (i < 19) && (byteAt s i.toNat != byteAt s (IntKind.i64.wrap (i + 1)).toNat)) && digB (byteAt s i.toNat)) && digB (byteAt s (IntKind.i64.wrap (i + 1)).toNat)) = true → 0 ≤ IntKind.i64.wrap (i + 1) ∧ IntKind.i64.wrap (i + 1) < ((withS s i.toNat (byteAt s (IntKind.i64.wrap (i + 1)).toNat)).size : Int)) ∧
        ((((decide (i < 19) && (byteAt s i.toNat != byteAt s (IntKind.i64.wrap (i + 1)).toNat)) && digB (byteAt s i.toNat)) && digB (byteAt s (IntKind.i64.wrap (i + 1)).toNat)) = true → (withS s i.toNat (byteAt s (IntKind.i64.wrap (i + 1)).toNat)).size ≤ 1000) ∧
        ((((((decide (i < 19) && (byteAt s i.toNat != byteAt s (IntKind.i64.wrap (i + 1)).toNat)) && digB (byteAt s i.toNat)) && digB (byteAt s (IntKind.i64.wrap (i + 1)).toNat)) && validB 3 (withS (withS s i.toNat (byteAt s (IntKind.i64.wrap (i + 1)).toNat)) (IntKind.i64.wrap (i + 1)).toNat (byteAt s i.toNat)))) = true → FinT false) ∧
        ((((((decide (i < 19) && (byteAt s i.toNat != byteAt s (IntKind.i64.wrap (i + 1)).toNat)) && digB (byteAt s i.toNat)) && digB (byteAt s (IntKind.i64.wrap (i + 1)).toNat)) && validB 3 (withS (withS s i.toNat (byteAt s (IntKind.i64.wrap (i + 1)).toNat)) (IntKind.i64.wrap (i + 1)).toNat (byteAt s i.toNat)))) = false → FinT true)) := by
    have hw : IntKind.i64.wrap (i + 1) = i + 1 := IntWalk.i64_in _ ⟨by omega, by omega⟩
    rw [hw]
    have hr : 0 ≤ i ∧ i < (s.size : Int) := by omega
    have hlt : i.toNat < s.size := by omega
    have hn : (i + 1).toNat = i.toNat + 1 := by omega
    rw [hn]
    have h19 : ∀ {p q r : Bool}, (((decide (i < 19) && p) && q) && r) = true → 0 ≤ i + 1 ∧ i + 1 < (s.size : Int) := fun {p q r} h => by
      simp only [Bool.and_eq_true, decide_eq_true_eq] at h; omega
    have h19' : ∀ {p q : Bool}, ((decide (i < 19) && p) && q) = true → 0 ≤ i + 1 ∧ i + 1 < (s.size : Int) := fun {p q} h => by
      simp only [Bool.and_eq_true, decide_eq_true_eq] at h; omega
    have hbb := byteAt_lt s i.toNat
    have hb0 := byteAt_nonneg s i.toNat
    have hbb1 := byteAt_lt s (i.toNat + 1)
    have hb10 := byteAt_nonneg s (i.toNat + 1)
    have hws : (withS s i.toNat (byteAt s (i.toNat + 1))).size = s.size := withS_size hlt
    refine ⟨hr, fun _ => hr, fun _ => by omega, fun h => ?_, fun _ => ⟨fun _ => hr, fun h => ?_, fun _ => hr, h19', h19, fun _ => hr, fun _ => by omega, fun _ => hr, fun h => by rw [hws]; exact h19 h, fun _ => by rw [hws]; omega, fun h => ?_, fun _ => finT rfl⟩⟩
    · simp only [Bool.and_eq_true, bne_iff_ne] at h
      have ht := withS_at (c := c) hlt ⟨hc0, hc1⟩
      refine absurd (validB_of h.2) (lei_replaced (i := i.toNat) (by omega) (withS_but hlt) (validB_of hv) ?_ (by rw [ht]; exact h.1))
      rw [ht]
      cases hdg : digB (byteAt s i.toNat) with
      | true => exact .inl ⟨rfl, hdd hdg⟩
      | false =>
        rcases alnum_lei hv (k := i.toNat) (by omega) with h1 | h1
        · rw [hdg] at h1; cases h1
        · exact .inr ⟨h1, hdl hdg⟩
    · have := of_decide_eq_true h; omega
    · simp only [Bool.and_eq_true, bne_iff_ne, decide_eq_true_eq] at h
      obtain ⟨⟨⟨⟨g1, g2⟩, g3⟩, g4⟩, g5⟩ := h
      have hlt1 : i.toNat + 1 < (withS s i.toNat (byteAt s (i.toNat + 1))).size := by rw [hws]; omega
      have e1 : byteAt (withS (withS s i.toNat (byteAt s (i.toNat + 1))) (i.toNat + 1) (byteAt s i.toNat)) (i.toNat + 1) = byteAt s i.toNat := withS_at hlt1 ⟨hb0, hbb⟩
      have e0 : byteAt (withS (withS s i.toNat (byteAt s (i.toNat + 1))) (i.toNat + 1) (byteAt s i.toNat)) i.toNat = byteAt s (i.toNat + 1) := by
        rw [← withS_but hlt1 i.toNat (by omega), withS_at hlt ⟨hb10, hbb1⟩]
      refine absurd (validB_of g5) (lei_exchanged (i := i.toNat) (by omega) (fun k h1 h2 => ?_) (validB_of hv) g3 g4 e0 e1 g2)
      rw [← withS_but hlt1 k h2, ← withS_but hlt k h1]
  exact vcL_end (τ := tab) (sp := table tabC) mixed tabC_ok _ _ _ (Eq.mp (by kernel_rfl) key2)

set_option maxRecDepth 100000 in
theorem prefix_law (κ : Int) (s tail : ByteArray) : Pure Tryd.prog 8 [.val (.int .i64 κ), .val (.string s), .val (.string tail)] (.d (.val (.bool true))) := by
  have key : CutB s ∧ CutB tail ∧ (((checkOut κ (cut100 s)).2 == 3) = true →
        ((decide ((checkOut κ (cut100 s)).1 < 0) || decide ((checkOut κ (cut100 s)).1 ≥ ((cut100 s).size : Int))) = true → FinT false) ∧
        ((decide ((checkOut κ (cut100 s)).1 < 0) || decide ((checkOut κ (cut100 s)).1 ≥ ((cut100 s).size : Int))) = false →
          (0 ≤ IntKind.i64.wrap ((checkOut κ (cut100 s)).1 + 1) ∧ IntKind.i64.wrap ((checkOut κ (cut100 s)).1 + 1) ≤ ((cut100 s).size : Int)) ∧
          (((((cut100 s).extract 0 (IntKind.i64.wrap ((checkOut κ (cut100 s)).1 + 1)).toNat).size + (cut100 tail).size : Nat) : Int) ≤ IntKind.i64.max) ∧
          FinT ((true && ((checkOut κ ((cut100 s).extract 0 (IntKind.i64.wrap ((checkOut κ (cut100 s)).1 + 1)).toNat ++ cut100 tail)).1 == (checkOut κ (cut100 s)).1)) && ((checkOut κ ((cut100 s).extract 0 (IntKind.i64.wrap ((checkOut κ (cut100 s)).1 + 1)).toNat ++ cut100 tail)).2 == 3)))) ∧
      (((checkOut κ (cut100 s)).2 == 3) = false → (((checkOut κ (cut100 s)).2 == 0) = true →
          (0 ≤ IntKind.i64.wrap (((cut100 s).size : Int) - 1) ∧ IntKind.i64.wrap (((cut100 s).size : Int) - 1) ≤ ((cut100 s).size : Int)) ∧
          FinT (true && ((((checkOut κ ((cut100 s).extract 0 (IntKind.i64.wrap (((cut100 s).size : Int) - 1)).toNat)).2 == 0) && ((checkOut κ ((cut100 s).extract 0 (IntKind.i64.wrap (((cut100 s).size : Int) - 1)).toNat)).1 == 0)) ||
            (((checkOut κ ((cut100 s).extract 0 (IntKind.i64.wrap (((cut100 s).size : Int) - 1)).toNat)).2 == 4) && ((checkOut κ ((cut100 s).extract 0 (IntKind.i64.wrap (((cut100 s).size : Int) - 1)).toNat)).1 == IntKind.i64.wrap (((cut100 s).size : Int) - 1)))))) ∧
        (((checkOut κ (cut100 s)).2 == 0) = false → FinT true)) := by
    refine ⟨cut_bound s, cut_bound tail, ?_⟩
    have hs := cut100_le s
    have ht := cut100_le tail
    generalize cut100 s = t at *
    generalize cut100 tail = u at *
    refine ⟨fun h => ?_, fun _ => ⟨fun h => ?_, fun _ => finT rfl⟩⟩
    · obtain ⟨k, h1, h2, h3⟩ := prefix_format (beq_iff_eq.1 h)
      rw [h1]
      have hw : IntKind.i64.wrap ((k : Int) + 1) = ((k + 1 : Nat) : Int) := wrap_nat k (by omega)
      rw [hw, Int.toNat_natCast]
      refine ⟨fun hc => ?_, fun _ => ⟨⟨by omega, by omega⟩, imax_le (by rw [size_extract]; omega), finT ?_⟩⟩
      · simp only [Bool.or_eq_true, decide_eq_true_eq] at hc; omega
      · have hsz : (t.extract 0 (k + 1)).size = k + 1 := by rw [size_extract]; omega
        rw [h3 _ (by rw [size_append, hsz]; omega) fun j hj => by rw [byteAt_append_left (by omega), byteAt_extract (by omega) (by omega), Nat.zero_add]]
        simp
    · obtain ⟨h1, h2⟩ := prefix_short (beq_iff_eq.1 h)
      have hw : IntKind.i64.wrap ((t.size : Int) - 1) = ((t.size - 1 : Nat) : Int) := by rw [IntWalk.i64_in _ ⟨by omega, by omega⟩]; omega
      rw [hw, Int.toNat_natCast]
      refine ⟨⟨by omega, by omega⟩, finT ?_⟩
      have hsz : (t.extract 0 (t.size - 1)).size = t.size - 1 := by rw [size_extract]; omega
      rcases h2 (t.extract 0 (t.size - 1)) hsz (fun j hj => by rw [byteAt_extract (by omega) (by omega), Nat.zero_add]) with e | e
      · rw [e]; rfl
      · rw [e]; simp
  exact pure_vc (τ := tab) mixed tabC_ok Tryd.f8 Tryd.func8 (by kernel_rfl) rfl (by kernel_rfl) key (by kernel_rfl)
end Go.Proofs.YtekifbnnkcgipaaDoor
