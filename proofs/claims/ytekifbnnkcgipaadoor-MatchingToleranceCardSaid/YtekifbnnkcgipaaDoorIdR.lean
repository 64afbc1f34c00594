/- Contracts of the reference's digits: Expand, Luhn, Mod97, pair. Conditions: all bytes are capital letters or digits, at most 1000 of them. -/
import Derived.Test.YtekifbnnkcgipaaDoorIdV
namespace Go.Proofs.YtekifbnnkcgipaaDoor
open Go.Sim

def digRow (l : List Nat) (k : Nat) : RV := .val (.int .i64 ((l.getD k 0 : Nat) : Int))
theorem digRow_push (out new : List Nat) (f : Nat → RV) (hf : ∀ k, k < new.length → f k = digRow new k) (k : Nat) (h : k < out.length + new.length) : joinF out.length (digRow out) f k = digRow (out ++ new) k := by
  unfold joinF
  cases hb : Nat.blt k out.length with
  | true =>
    have hlt : k < out.length := Nat.le_of_ble_eq_true hb
    simp [digRow, List.getD_eq_getElem?_getD, List.getElem?_append_left hlt]
  | false =>
    have hge : ¬ k < out.length := fun hlt => by rw [show Nat.blt k out.length = true from Nat.ble_eq_true_of_le hlt] at hb; cases hb
    simp only [cond_false]
    rw [hf _ (by omega)]
    simp [digRow, List.getD_eq_getElem?_getD, List.getElem?_append_right (show out.length ≤ k by omega)]

def exSt (s : ByteArray) (i : Int) (out : List Nat) : St := ⟨38, [(3, .own 0), (0, .d (.val (.string s))), (4, .d (.val (.int .i64 i)))], [], [], [(0, ⟨3, 1, out.length, digRow out⟩)], 1⟩
theorem ex_push {s : ByteArray} {i : Int} {out new : List Nat} {st : St} {n : Nat} {f : Nat → RV} (hn : out.length + n = (out ++ new).length) (hf : ∀ k, k < n → f k = digRow new k)
    (h : st.ren [3, 0, 4] 1 0 1 = some ⟨38, (exSt s i out).sl, [], [], [(0, ⟨3, 1, out.length + n, joinF out.length (digRow out) f⟩)], 1⟩) : Weaker st (exSt s i (out ++ new)) := by
  have hnn : n = new.length := by simp at hn; omega
  exact (weaker_ren [3, 0, 4] 1 0 1 h).trans (weaker_row hn fun k hk => digRow_push out new f (fun q hq => hf q (by omega)) k (by omega))

/-- A digit's and a letter's value as the reference computes them. -/
def rdX (c : Int) : Int := IntKind.i64.wrap (IntKind.u8.wrap (c - 48))
def rlX (c : Int) : Int := IntKind.i64.wrap (IntKind.i64.wrap (IntKind.u8.wrap (c - 65)) + 10)
theorem rdX_eq {c : Int} (h : digB c = true) : rdX c = ((c - 48).toNat : Nat) := by
  have := (digB_iff c).1 h
  unfold rdX
  rw [IntWalk.u8_in _ ⟨by omega, by omega⟩, IntWalk.i64_in _ ⟨by omega, by omega⟩]; omega
theorem rlX_eq {c : Int} (h : letB c = true) : rlX c = ((c - 65).toNat + 10 : Nat) := by
  have := (letB_iff c).1 h
  unfold rlX
  rw [IntWalk.u8_in _ ⟨by omega, by omega⟩, IntWalk.i64_in (c - 65) ⟨by omega, by omega⟩, IntWalk.i64_in _ ⟨by omega, by omega⟩]; omega
theorem quo10 (n : Nat) (h : n ≤ 1000) : IntKind.i64.wrap ((n : Int).tdiv 10) = ((n / 10 : Nat) : Int) := by
  rw [IntWalk.i64_quo _ _ ⟨by omega, by omega, by omega⟩]; omega
theorem rem10 (n : Nat) : (n : Int).tmod 10 = ((n % 10 : Nat) : Int) := by
  rw [Int.tmod_eq_emod_of_nonneg (by omega)]; omega
theorem expF_digit {c : Int} (h : digB c = true) : expF c = [(c - 48).toNat] := by unfold expF; rw [h]; rfl
theorem expF_letter {c : Int} (h : digB c = false) : expF c = [((c - 65).toNat + 10) / 10, ((c - 65).toNat + 10) % 10] := by unfold expF; rw [h]; rfl

def tabR : List (Nat × Entry) := [(98, eByte letB), (99, eByte digB)]
theorem tabR_ok : SpecOk Tryd.prog (table tabR) := table_ok ⟨rletter_ok, rdigit_ok, trivial⟩
set_option maxRecDepth 100000 in
theorem rexpand_pure (s : ByteArray) (hs : s.size ≤ 1000) (ha : alnum s s.size) : Pure Tryd.prog 100 [.val (.string s)] (.d (.row 1 (exps s s.size).length (digRow (exps s s.size)))) := by
  refine pure_fn (τ := tab) mixed tabR_ok Tryd.f100 Tryd.func100 (by kernel_rfl) rfl (by kernel_rfl) ?_
  refine loopVC_intro (fun m st => ∃ (k : Nat) (i : Int), i = k ∧ k + m = s.size ∧ st = exSt s i (exps s k)) s.size (exSt s 0 [])
    (weaker_nilO [0, 4] 3 3 1 (digRow []) (by kernel_rfl)) ⟨0, 0, rfl, by omega, rfl⟩ ?_
  rintro m st ⟨k, _, rfl, hk, rfl⟩
  have hlen := exps_len s k
  have hl2 := expF_len (byteAt s k)
  refine ⟨fun h => ?_, fun h => ?_⟩
  · have hlt : k < s.size := by have := of_decide_eq_true h; omega
    have hb : (0 : Int) ≤ k ∧ (k : Int) < (s.size : Int) := ⟨by omega, by omega⟩
    have hal := ha k hlt
    refine ⟨hb, fun hd => ?_, fun hd => ?_⟩
    · have hd : digB (byteAt s k) = true := hd
      have hb1 : ((exps s k).length + 1) * 8 ≤ 140737488351232 := by omega
      refine ⟨hb, hb1, m - 1, exSt s (IntKind.i64.wrap ((k : Int) + 1)) (exps s k ++ [(byteAt s k - 48).toNat]), by omega, ex_push (n := 1) (f := fun q => [RV.val (.int .i64 (rdX (byteAt s k)))].getD q default) (by simp) (fun q hq => ?_) (by kernel_rfl), k + 1, _, i64_succ k (by omega), by omega, congrArg (exSt s _) ?_⟩
      · obtain rfl : q = 0 := by omega
        rw [rdX_eq hd]; rfl
      · rw [exps, expF_digit hd]
    · have hd : digB (byteAt s k) = false := hd
      have hle : letB (byteAt s k) = true := by simpa [hd] using hal
      have hb1 : ((exps s k).length + 2) * 8 ≤ 140737488351232 := by omega
      have hx := rlX_eq hle
      have hr := (letB_iff _).1 hle
      refine ⟨hb, ne10, ne10, hb1, m - 1, exSt s (IntKind.i64.wrap ((k : Int) + 1)) (exps s k ++ [((byteAt s k - 65).toNat + 10) / 10, ((byteAt s k - 65).toNat + 10) % 10]), by omega, ex_push (n := 2) (f := fun q => [RV.val (.int .i64 (IntKind.i64.wrap ((rlX (byteAt s k)).tdiv 10))), RV.val (.int .i64 ((rlX (byteAt s k)).tmod 10))].getD q default) (by simp) (fun q hq => ?_) (by kernel_rfl), k + 1, _, i64_succ k (by omega), by omega, congrArg (exSt s _) ?_⟩
      · rw [hx, quo10 _ (by omega), rem10]
        match q, hq with
        | 0, _ => rfl
        | 1, _ => rfl
      · rw [exps, expF_letter hd]
  · have hge : k = s.size := by have := of_decide_eq_false h; omega
    exact ends_ret (y := .d (.row 1 (exps s k).length (digRow (exps s k)))) (by rw [hge]) (by kernel_rfl)

/-- The contract of the reference's Expand. -/
def eRExpand : Entry := fun args => match args with
  | [.val (.string s)] => some ([s.size ≤ 1000, alnum s s.size], .d (.row 1 (exps s s.size).length (digRow (exps s s.size))))
  | _ => none
theorem eRExpand_ok : EntryOk Tryd.prog 100 eRExpand := by
  refine ⟨enters Tryd.f100 Tryd.func100 (by kernel_rfl), fun args ps x h hp => ?_⟩
  unfold eRExpand at h
  split at h
  · simp only [Option.some.injEq, Prod.mk.injEq] at h
    obtain ⟨rfl, rfl⟩ := h
    exact rexpand_pure _ (hp _ (by simp)) (hp _ (by simp))
  · cases h
def tabR2 : List (Nat × Entry) := [(100, eRExpand)]
theorem tabR2_ok : SpecOk Tryd.prog (table tabR2) := table_ok ⟨eRExpand_ok, trivial⟩

def rlSt (l : List Nat) (sum i : Int) : St := ⟨39, [(3, .d (.row 1 l.length (digRow l))), (4, .d (.val (.int .i64 sum))), (5, .d (.val (.int .i64 i)))], [], [], [], 0⟩
def rIx (n : Nat) (k : Int) : Int := IntKind.i64.wrap (IntKind.i64.wrap ((n : Int) - 1) - k)
theorem rIx_eq {n k : Nat} (hn : n ≤ 2000) (hk : k < n) : rIx n k = ((n - 1 - k : Nat) : Int) := by
  unfold rIx
  rw [IntWalk.i64_in ((n : Int) - 1) ⟨by omega, by omega⟩, IntWalk.i64_in _ ⟨by omega, by omega⟩]; omega
def rlSum (sum d : Int) : Int := IntKind.i64.wrap (IntKind.i64.wrap (sum + IntKind.i64.wrap (d.tdiv 10)) + d.tmod 10)
theorem rlSum_eq (a d : Nat) (ha : a ≤ 1000000) (hd : d ≤ 1000) : rlSum a d = ((a + (d / 10 + d % 10) : Nat) : Int) := by
  unfold rlSum
  rw [quo10 _ hd, rem10, IntWalk.i64_in ((a : Int) + (d / 10 : Nat)) ⟨by omega, by omega⟩, IntWalk.i64_in _ ⟨by omega, by omega⟩]
  omega
theorem getD_lt {l : List Nat} (h : ∀ d ∈ l, d < 10) (k : Nat) : l.getD k 0 < 10 := by
  rw [List.getD_eq_getElem?_getD]
  cases hg : l[k]? with
  | none => simp
  | some d => exact h d (List.mem_of_getElem? hg)
theorem two_mul_wrap (d : Nat) (h : d < 10) : IntKind.i64.wrap (2 * (d : Int)) = ((d * 2 : Nat) : Int) := by
  rw [IntWalk.i64_in _ ⟨by omega, by omega⟩]; omega

set_option maxRecDepth 100000 in
theorem rluhn_pure (s : ByteArray) (hs : s.size ≤ 1000) (ha : alnum s s.size) : Pure Tryd.prog 62 [.val (.string s)] (.d (.val (.int .i64 (luhnD (exps s s.size) : Nat)))) := by
  have hdig : ∀ d ∈ exps s s.size, d < 10 := exps_lt ha
  have hlen := exps_len s s.size
  refine pure_fn (τ := tab) mixed tabR2_ok Tryd.f62 Tryd.func62 (by kernel_rfl) rfl (by kernel_rfl) ?_
  refine ⟨hs, ha, ?_⟩
  refine loopVC_intro (fun m st => ∃ (k : Nat) (i sum : Int), i = k ∧ sum = lsum (exps s s.size) k ∧ k + m = (exps s s.size).length ∧ st = rlSt (exps s s.size) sum i) (exps s s.size).length (rlSt (exps s s.size) 0 0)
     (weaker_of [3, 4, 5] (by kernel_rfl)) ⟨0, 0, 0, rfl, rfl, by omega, rfl⟩ ?_
  rintro m st ⟨k, _, _, rfl, rfl, hk, rfl⟩
  have hsum := lsum_le hdig k
  refine ⟨fun h => ?_, fun h => ?_⟩
  · have hlt : k < (exps s s.size).length := by have := of_decide_eq_true h; omega
    have hix := rIx_eq (show (exps s s.size).length ≤ 2000 by omega) hlt
    have hb : 0 ≤ rIx (exps s s.size).length k ∧ rIx (exps s s.size).length k < ((exps s s.size).length : Int) := ⟨by rw [hix]; omega, by rw [hix]; omega⟩
    have hd10 := getD_lt hdig ((exps s s.size).length - 1 - k)
    have hto : (rIx (exps s s.size).length k).toNat = (exps s s.size).length - 1 - k := by rw [hix]; omega
    refine ⟨hb, ne2, fun h2 => ⟨ne10, ne10, ?_⟩, fun h2 => ⟨ne10, ne10, ?_⟩⟩
    · have h2' : k % 2 = 0 := by
        have : (k : Int).tmod 2 = 0 := by simpa using h2
        rw [Int.tmod_eq_emod_of_nonneg (by omega)] at this; omega
      exact ⟨m - 1, rlSt (exps s s.size) (rlSum (lsum (exps s s.size) k) (IntKind.i64.wrap (2 * (((exps s s.size).getD (rIx (exps s s.size).length k).toNat 0 : Nat) : Int)))) (IntKind.i64.wrap ((k : Int) + 1)), by omega, weaker_of [3, 4, 5] (by kernel_rfl),
        k + 1, _, _, i64_succ k (by omega), by
          rw [hto, two_mul_wrap _ hd10, lsum_even h2']
          exact rlSum_eq _ _ (by omega) (by omega), by omega, rfl⟩
    · have h2' : ¬ k % 2 = 0 := fun h0 => by
        have : ¬ (k : Int).tmod 2 = 0 := by simpa using h2
        rw [Int.tmod_eq_emod_of_nonneg (by omega)] at this; omega
      exact ⟨m - 1, rlSt (exps s s.size) (rlSum (lsum (exps s s.size) k) (((exps s s.size).getD (rIx (exps s s.size).length k).toNat 0 : Nat) : Int)) (IntKind.i64.wrap ((k : Int) + 1)), by omega, weaker_of [3, 4, 5] (by kernel_rfl),
        k + 1, _, _, i64_succ k (by omega), by
          rw [hto, lsum_odd h2']
          exact rlSum_eq _ _ (by omega) (by omega), by omega, rfl⟩
  · have hge : k = (exps s s.size).length := by have := of_decide_eq_false h; omega
    have e : luOut (lsum (exps s s.size) k) = (luhnD (exps s s.size) : Nat) := by rw [luOut_eq, hge]; rfl
    refine ⟨ne10, ne10, ?_⟩
    exact ends_ret (y := .d (.val (.int .i64 (luOut (lsum (exps s s.size) k))))) (by rw [e]) (by kernel_rfl)

def rmSt (l : List Nat) (r i : Int) : St := ⟨23, [(3, .d (.row 1 l.length (digRow l))), (4, .d (.val (.int .i64 r))), (5, .d (.val (.int .i64 i)))], [], [], [], 0⟩
def rmX (r d : Int) : Int := (IntKind.i64.wrap (IntKind.i64.wrap (10 * r) + d)).tmod 97
theorem rmX_eq (m d : Nat) (hm : m < 97) (hd : d < 10) : rmX m d = (((10 * m + d) % 97 : Nat) : Int) := by
  unfold rmX
  rw [IntWalk.i64_in (10 * (m : Int)) ⟨by omega, by omega⟩, IntWalk.i64_in _ ⟨by omega, by omega⟩, Int.tmod_eq_emod_of_nonneg (by omega)]
  omega
theorem m97_take (l : List Nat) (k : Nat) (h : k < l.length) : m97 (l.take (k + 1)) = (10 * m97 (l.take k) + l.getD k 0) % 97 := by
  rw [List.take_succ_eq_append_getElem h, m97_push, List.getD_eq_getElem?_getD, List.getElem?_eq_getElem h]; rfl
set_option maxRecDepth 100000 in
theorem rmod97_pure (s : ByteArray) (hs : s.size ≤ 1000) (ha : alnum s s.size) : Pure Tryd.prog 64 [.val (.string s)] (.d (.val (.int .i64 (m97 (exps s s.size) : Nat)))) := by
  have hdig : ∀ d ∈ exps s s.size, d < 10 := exps_lt ha
  have hlen := exps_len s s.size
  refine pure_fn (τ := tab) mixed tabR2_ok Tryd.f64 Tryd.func64 (by kernel_rfl) rfl (by kernel_rfl) ?_
  refine ⟨hs, ha, ?_⟩
  refine loopVC_intro (fun m st => ∃ (k : Nat) (i r : Int), i = k ∧ r = m97 ((exps s s.size).take k) ∧ k + m = (exps s s.size).length ∧ st = rmSt (exps s s.size) r i) (exps s s.size).length (rmSt (exps s s.size) 0 0)
     (weaker_of [3, 4, 5] (by kernel_rfl)) ⟨0, 0, 0, rfl, rfl, by omega, rfl⟩ ?_
  rintro m st ⟨k, _, _, rfl, rfl, hk, rfl⟩
  have hm := m97_lt ((exps s s.size).take k)
  refine ⟨fun h => ?_, fun h => ?_⟩
  · have hlt : k < (exps s s.size).length := by have := of_decide_eq_true h; omega
    have hd10 := getD_lt hdig k
    refine ⟨⟨by omega, by omega⟩, ne97, m - 1, rmSt (exps s s.size) (rmX (m97 ((exps s s.size).take k) : Nat) (((exps s s.size).getD k 0 : Nat) : Int)) (IntKind.i64.wrap ((k : Int) + 1)), by omega, weaker_of [3, 4, 5] (by kernel_rfl),
      k + 1, _, _, i64_succ k (by omega), by rw [m97_take _ _ hlt]; exact rmX_eq _ _ hm hd10, by omega, rfl⟩
  · have hge : k = (exps s s.size).length := by have := of_decide_eq_false h; omega
    exact ends_ret (y := .d (.val (.int .i64 (m97 ((exps s s.size).take k) : Nat)))) (by rw [hge, List.take_length]) (by kernel_rfl)

def prA (n : Int) : Int := IntKind.u8.wrap (IntKind.i64.wrap (48 + IntKind.i64.wrap (n.tdiv 10)))
def prB (n : Int) : Int := IntKind.u8.wrap (IntKind.i64.wrap (48 + n.tmod 10))
theorem pair_str (n : Nat) (h : n < 100) : strOfNums [prA n, prB n] = pairStr n := by
  have e1 : prA n = ((48 + n / 10 : Nat) : Int) := by
    unfold prA
    rw [quo10 _ (by omega), IntWalk.i64_in _ ⟨by omega, by omega⟩, IntWalk.u8_in _ ⟨by omega, by omega⟩]; omega
  have e2 : prB n = ((48 + n % 10 : Nat) : Int) := by
    unfold prB
    rw [rem10, IntWalk.i64_in _ ⟨by omega, by omega⟩, IntWalk.u8_in _ ⟨by omega, by omega⟩]; omega
  rw [e1, e2]; rfl
set_option maxRecDepth 100000 in
theorem pair_pure (n : Nat) (h : n < 100) : Pure Tryd.prog 63 [.val (.int .i64 n)] (.d (.val (.string (pairStr n)))) := by
  refine pure_fn (τ := tab) mixed noSpec_ok Tryd.f63 Tryd.func63 (by kernel_rfl) rfl (by kernel_rfl) ?_
  refine ⟨ne10, ne10, ?_⟩
  exact ends_ret (y := .d (.val (.string (strOfNums [prA n, prB n])))) (by rw [pair_str n h]) (by kernel_rfl)
end Go.Proofs.YtekifbnnkcgipaaDoor
