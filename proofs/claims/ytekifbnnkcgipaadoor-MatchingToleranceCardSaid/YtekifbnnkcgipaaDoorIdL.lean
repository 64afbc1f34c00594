/- Contracts of the check digits: expand, luhn, and the reference's. Conditions: all bytes are capital letters or digits, at most 1000 of them. -/
import Derived.Test.YtekifbnnkcgipaaDoorIdB
namespace Go.Proofs.YtekifbnnkcgipaaDoor
open Go.Sim

def digStr (l : List Nat) : ByteArray := ⟨(asc l).toArray⟩
theorem digStr_size (l : List Nat) : (digStr l).size = l.length := by show (asc l).toArray.size = _; simp [asc]
theorem digStr_at {l : List Nat} (h : ∀ d ∈ l, d < 10) {j : Nat} (hj : j < l.length) : byteAt (digStr l) j = 48 + (l.getD j 0 : Nat) := by
  have hm := h _ (List.getElem_mem hj)
  unfold byteAt digStr asc
  rw [Array.getD_eq_getD_getElem?]
  simp only [List.getElem?_toArray, List.getElem?_map, List.getElem?_eq_getElem hj, Option.map_some, Option.getD_some, List.getD_eq_getElem?_getD, UInt8.toNat_ofNat']
  omega

theorem expand_pure (s : ByteArray) (hs : s.size ≤ 1000) (ha : alnum s s.size) : Pure Tryd.prog 120 [.val (.string s)] (.d (.val (.string (digStr (exps s s.size))))) := by
  intro N w vs hN hc
  obtain ⟨v, rfl⟩ : ∃ v, vs = [v] := by
    have := hc.1
    match vs, this with
    | [v], _ => exact ⟨v, rfl⟩
  have hv := hc.2 0 _ _ rfl rfl
  cases hv
  refine (expand_walk s w hs ha).mono ?_
  rintro e w' ⟨rfl, hb⟩
  exact ⟨_, rfl, fun β => .d (.val _), hb⟩

def eExpand : Entry := fun args => match args with
  | [.val (.string s)] => some ([s.size ≤ 1000, alnum s s.size], .d (.val (.string (digStr (exps s s.size)))))
  | _ => none
theorem eExpand_ok : EntryOk Tryd.prog 120 eExpand := by
  refine ⟨enters Tryd.f120 Tryd.func120 (by kernel_rfl), fun args ps x h hp => ?_⟩
  unfold eExpand at h
  split at h
  · simp only [Option.some.injEq, Prod.mk.injEq] at h
    obtain ⟨rfl, rfl⟩ := h
    exact expand_pure _ (hp _ (by simp)) (hp _ (by simp))
  · cases h

/-- strconv.Itoa below 100. -/
def itoaStr (n : Nat) : ByteArray := ⟨(Lib.decDigits n).toArray⟩
def eItoa : Entry := fun args => match args with
  | [.val (.int .i64 n)] => some ([0 ≤ n ∧ n < 100], .d (.val (.string (itoaStr n.toNat))))
  | _ => none
theorem eItoa_ok : EntryOk Tryd.prog 121 eItoa := by
  refine ⟨enters Tryd.f121 Tryd.func121 (by kernel_rfl), fun args ps x h hp => ?_⟩
  unfold eItoa at h
  split at h
  · rename_i n
    simp only [Option.some.injEq, Prod.mk.injEq] at h
    obtain ⟨rfl, rfl⟩ := h
    have hn : 0 ≤ n ∧ n < 100 := hp _ (by simp)
    intro N w vs hN hc
    obtain ⟨v, rfl⟩ : ∃ v, vs = [v] := by
      have := hc.1
      match vs, this with
      | [v], _ => exact ⟨v, rfl⟩
    have hv := hc.2 0 _ _ rfl rfl
    cases hv
    have hc := Tryd.strconv_Itoa_small n.toNat (by omega) w
    rw [show ((n.toNat : Nat) : Int) = n by omega] at hc
    refine hc.mono ?_
    rintro e w' ⟨rfl, rfl⟩
    exact ⟨_, rfl, fun β => .d (.val _), RowKit.Below.refl _ _⟩
  · cases h

/-- What a digit at place i from the end adds. -/
def lw (i d : Nat) : Nat := (if i % 2 = 0 then 2 * d else d) / 10 + (if i % 2 = 0 then 2 * d else d) % 10
def lsum (l : List Nat) : Nat → Nat
  | 0 => 0
  | k + 1 => lsum l k + lw k (l.getD (l.length - 1 - k) 0)
def luhnD (l : List Nat) : Nat := (10 - lsum l l.length % 10) % 10
theorem luhnD_lt (l : List Nat) : luhnD l < 10 := by unfold luhnD; omega
theorem lw_le {i d : Nat} (h : d < 10) : lw i d ≤ 10 := by unfold lw; split <;> omega
theorem lsum_le {l : List Nat} (h : ∀ d ∈ l, d < 10) : ∀ k, lsum l k ≤ 10 * k
  | 0 => by simp [lsum]
  | k + 1 => by
    have h1 := lsum_le h k
    have h2 : l.getD (l.length - 1 - k) 0 < 10 := by
      rw [List.getD_eq_getElem?_getD]
      cases hg : l[l.length - 1 - k]? with
      | none => simp
      | some d => exact h d (List.mem_of_getElem? hg)
    have h3 := lw_le (i := k) h2
    simp only [lsum]; omega

def luSt (s : ByteArray) (sum i : Int) : St := ⟨41, [(3, .d (.val (.string s))), (4, .d (.val (.int .i64 sum))), (10, .d (.val (.int .i64 s.size))), (11, .d (.val (.int .i64 i)))], [], [], [], 0⟩
def tabL : List (Nat × Entry) := [(120, eExpand), (121, eItoa)]
theorem tabL_ok : SpecOk Tryd.prog (table tabL) := table_ok ⟨eExpand_ok, eItoa_ok, trivial⟩
/-- The digit that a round of luhn reads. -/
def luX (s : ByteArray) (k : Int) : Int := IntKind.i64.wrap (IntKind.u8.wrap (byteAt s (IntKind.i64.wrap (IntKind.i64.wrap ((s.size : Int) - 1) - k)).toNat - 48))
def luSum (sum d : Int) : Int := IntKind.i64.wrap (sum + IntKind.i64.wrap (IntKind.i64.wrap (d.tdiv 10) + d.tmod 10))
theorem luX_eq {l : List Nat} (h : ∀ d ∈ l, d < 10) (hl : l.length ≤ 2000) {k : Nat} (hk : k < l.length) : luX (digStr l) k = (l.getD (l.length - 1 - k) 0 : Nat) ∧
    0 ≤ IntKind.i64.wrap (IntKind.i64.wrap (((digStr l).size : Int) - 1) - k) ∧ IntKind.i64.wrap (IntKind.i64.wrap (((digStr l).size : Int) - 1) - k) < ((digStr l).size : Int) := by
  have e : IntKind.i64.wrap (IntKind.i64.wrap (((digStr l).size : Int) - 1) - k) = ((l.length - 1 - k : Nat) : Int) := by
    rw [digStr_size, IntWalk.i64_in ((l.length : Int) - 1) ⟨by omega, by omega⟩, IntWalk.i64_in _ ⟨by omega, by omega⟩]; omega
  refine ⟨?_, by rw [e]; omega, by rw [e, digStr_size]; omega⟩
  unfold luX
  have hd : l.getD (l.length - 1 - k) 0 < 10 := by
    rw [List.getD_eq_getElem?_getD, List.getElem?_eq_getElem (by omega)]
    exact h _ (List.getElem_mem _)
  rw [e, Int.toNat_natCast, digStr_at h (by omega), IntWalk.u8_in _ ⟨by omega, by omega⟩, IntWalk.i64_in _ ⟨by omega, by omega⟩]
  omega
theorem luSum_eq (a d : Nat) (ha : a ≤ 1000000) (hd : d ≤ 1000) : luSum a d = ((a + (d / 10 + d % 10) : Nat) : Int) := by
  unfold luSum
  rw [IntWalk.i64_quo _ _ ⟨by omega, by omega, by omega⟩, Int.tmod_eq_emod_of_nonneg (by omega), IntWalk.i64_in ((d : Int) / 10 + (d : Int) % 10) ⟨by omega, by omega⟩, IntWalk.i64_in _ ⟨by omega, by omega⟩]
  omega
theorem lsum_even {l : List Nat} {k : Nat} (h : k % 2 = 0) : lsum l (k + 1) = lsum l k + (l.getD (l.length - 1 - k) 0 * 2 / 10 + l.getD (l.length - 1 - k) 0 * 2 % 10) := by
  simp only [lsum, lw, if_pos h, Nat.mul_comm 2]
theorem lsum_odd {l : List Nat} {k : Nat} (h : ¬ k % 2 = 0) : lsum l (k + 1) = lsum l k + (l.getD (l.length - 1 - k) 0 / 10 + l.getD (l.length - 1 - k) 0 % 10) := by
  simp only [lsum, lw, if_neg h]
theorem ne2 : (2 : Int) ≠ 0 := by decide
theorem ne10 : (10 : Int) ≠ 0 := by decide
theorem ne97 : (97 : Int) ≠ 0 := by decide
/-- What luhn gives out of its sum. -/
def luOut (sum : Int) : Int := (IntKind.i64.wrap (10 - sum.tmod 10)).tmod 10
theorem luOut_eq (a : Nat) : luOut a = ((10 - a % 10) % 10 : Nat) := by
  unfold luOut
  rw [Int.tmod_eq_emod_of_nonneg (show (0 : Int) ≤ a by omega), IntWalk.i64_in _ ⟨by omega, by omega⟩, Int.tmod_eq_emod_of_nonneg (by omega)]
  omega

set_option maxRecDepth 100000 in
theorem luhn_pure (s : ByteArray) (hs : s.size ≤ 1000) (ha : alnum s s.size) : Pure Tryd.prog 95 [.val (.string s)] (.d (.val (.string (itoaStr (luhnD (exps s s.size)))))) := by
  have hdig : ∀ d ∈ exps s s.size, d < 10 := exps_lt ha
  have hlen := exps_len s s.size
  refine pure_fn (τ := tab) mixed tabL_ok Tryd.f95 Tryd.func95 (by kernel_rfl) rfl (by kernel_rfl) ?_
  refine ⟨hs, ha, ?_⟩
  refine loopVC_intro (fun m st => ∃ (k : Nat) (i sum : Int), i = k ∧ sum = lsum (exps s s.size) k ∧ k + m = (exps s s.size).length ∧ st = luSt (digStr (exps s s.size)) sum i) (exps s s.size).length (luSt (digStr (exps s s.size)) 0 0)
     (weaker_of [3, 4, 10, 11] (by kernel_rfl)) ⟨0, 0, 0, rfl, rfl, by omega, rfl⟩ ?_
  rintro m st ⟨k, _, _, rfl, rfl, hk, rfl⟩
  have hsz := digStr_size (exps s s.size)
  have hsum := lsum_le hdig k
  refine ⟨fun h => ?_, fun h => ?_⟩
  · have hlt : k < (exps s s.size).length := by have := of_decide_eq_true h; omega
    obtain ⟨hx, hb0, hb1⟩ := luX_eq hdig (by omega) hlt
    have hd10 : (exps s s.size).getD ((exps s s.size).length - 1 - k) 0 < 10 := by
      rw [List.getD_eq_getElem?_getD, List.getElem?_eq_getElem (by omega)]
      exact hdig _ (List.getElem_mem _)
    refine ⟨⟨hb0, hb1⟩, ne2, fun h2 => ⟨ne10, ne10, ?_⟩, fun h2 => ⟨ne10, ne10, ?_⟩⟩
    · have h2' : k % 2 = 0 := by
        have : (k : Int).tmod 2 = 0 := by simpa using h2
        rw [Int.tmod_eq_emod_of_nonneg (by omega)] at this; omega
      exact ⟨m - 1, luSt (digStr (exps s s.size)) (luSum (lsum (exps s s.size) k) (IntKind.i64.wrap (luX (digStr (exps s s.size)) k * 2))) (IntKind.i64.wrap ((k : Int) + 1)), by omega, weaker_of [3, 4, 10, 11] (by kernel_rfl),
        k + 1, _, _, i64_succ k (by omega), by
          rw [hx, IntWalk.i64_in _ ⟨by omega, by omega⟩, lsum_even h2']
          exact luSum_eq _ (_ * 2) (by omega) (by omega), by omega, rfl⟩
    · have h2' : ¬ k % 2 = 0 := fun h0 => by
        have : ¬ (k : Int).tmod 2 = 0 := by simpa using h2
        rw [Int.tmod_eq_emod_of_nonneg (by omega)] at this; omega
      exact ⟨m - 1, luSt (digStr (exps s s.size)) (luSum (lsum (exps s s.size) k) (luX (digStr (exps s s.size)) k)) (IntKind.i64.wrap ((k : Int) + 1)), by omega, weaker_of [3, 4, 10, 11] (by kernel_rfl),
        k + 1, _, _, i64_succ k (by omega), by
          rw [hx, lsum_odd h2']
          exact luSum_eq _ _ (by omega) (by omega), by omega, rfl⟩
  · have hge : k = (exps s s.size).length := by have := of_decide_eq_false h; omega
    have e : luOut (lsum (exps s s.size) k) = (luhnD (exps s s.size) : Nat) := by rw [luOut_eq, hge]; rfl
    have hlu := luhnD_lt (exps s s.size)
    refine ⟨ne10, ne10, ?_, ?_⟩
    · show 0 ≤ luOut _ ∧ luOut _ < 100
      rw [e]; omega
    · exact ends_ret (y := .d (.val (.string (itoaStr (luOut (lsum (exps s s.size) k)).toNat)))) (by rw [e]; rfl) (by kernel_rfl)
end Go.Proofs.YtekifbnnkcgipaaDoor
