/- expand: the decimal digits of letters and digits. Conditions: all bytes are capital letters or digits. -/
import Derived.Test.YtekifbnnkcgipaaDoorBld
import Derived.Test.YtekifbnnkcgipaaDoorIdM
namespace Go.Proofs.YtekifbnnkcgipaaDoor
open Go.RowKit Go.Proofs
open Go.Sim (byteAt)

theorem digit_walk (c : Int) (w : World) : Calls Tryd.prog 94 #[.int .u8 c] w fun e w' => e = .returned (.bool (digB c)) ∧ w' = w := by
  go_enter Tryd.func94, Tryd.ntmps94
  go_wp2
  all_goals go_ret
  all_goals refine ⟨?_, rfl⟩
  · rename_i h; simp [digB, h]
  · rename_i h
    have : ¬ 48 ≤ c := by omega
    simp [digB, this]
theorem itoa_letter (c : Int) (h : letB c = true) (n : Int) (hn : n = c - 65 + 10) (w : World) :
    Calls Tryd.prog 121 #[.int .i64 n] w fun e w' => e = .returned (.string ⟨(asc (expF c)).toArray⟩) ∧ w' = w := by
  have h' := (letB_iff c).1 h
  have e : n = (((c - 65).toNat + 10 : Nat) : Int) := by omega
  rw [e, ← dec_letter h]
  exact Tryd.strconv_Itoa_small _ (by omega) w
set_option maxHeartbeats 4000000 in
set_option maxRecDepth 1000000 in
theorem expand_walk (s : ByteArray) (w : World) (hs : s.size ≤ 1000) (ha : alnum s s.size) :
    Calls Tryd.prog 120 #[.string s] w fun e w' => e = .returned (.string ⟨(asc (exps s s.size)).toArray⟩) ∧ Below w.heap.size w w' := by
  go_enter Tryd.func120, Tryd.ntmps120
  go_wp2
  go_loopw [7] (fun i wr => ∃ k : Nat, i = .int .i64 k ∧ k ≤ s.size ∧ Lib.IsBuilder 167 5 w.heap.size w.heap.size (Lib.byteCells (asc (exps s k))) wr ∧ Below w.heap.size w wr) (fun i wr => s.size - (intOf i).toNat)
  case atStart =>
    refine ⟨0, rfl, by omega, Lib.fresh_isBuilder 167 5 w, (Below.refl _ w).alloc (Nat.le_refl _) _⟩
  case round =>
    obtain ⟨k, rfl, hk, hI, hbw⟩ := hrel
    have hsz : w.heap.size ≤ wr.heap.size := hbw.size
    have hlen : (Lib.byteCells (asc (exps s k))).length ≤ 2 * k := by
      rw [Lib.byteCells_length, asc, List.length_map]; exact exps_len s k
    by_cases hp : k < s.size
    · have hb := byteAt_of hp
      go_wp2_with (go_at_call 94; refine (digit_walk _ _).mono ?_)
      rintro e w1 ⟨rfl, rfl⟩
      cases hd : digB ((s[k]'hp).toNat : Int) with
      | true =>
        go_wp2_with (go_at_call 124; refine (writeByte w.heap.size w.heap.size _ _ _ hI (by omega) hsz).mono ?_)
        rintro e W1 ⟨rfl, h1, b1⟩
        go_wp2
        go_roundw
        case rel =>
          refine ⟨k + 1, by go_num, by omega, ?_, hbw.trans b1⟩
          have : Lib.byteCells (asc (exps s (k + 1))) = Lib.byteCells (asc (exps s k)) ++ [.int .u8 ((s[k]'hp).toNat : Int)] := by
            rw [exps, asc_append, Lib.byteCells_append, asc_digit (by rw [hb]; exact hd), hb]
          rw [this]
          exact Or.inr h1
        case measure => simp [intOf]; omega
      | false =>
        have hl : letB ((s[k]'hp).toNat : Int) = true := by
          have := ha k hp
          rw [hb, hd] at this
          simpa using this
        have hl' := (letB_iff _).1 hl
        go_wp2_with (go_at_call 121; refine (itoa_letter ((s[k]'hp).toNat : Int) hl _ rfl _).mono ?_)
        rintro e w2 ⟨rfl, rfl⟩
        have hasc : (asc (expF ((s[k]'hp).toNat : Int))).length ≤ 2 := by rw [asc, List.length_map]; exact expF_len _
        go_wp2_with (go_at_call 125; refine (writeString w.heap.size w.heap.size _ _ _ hI (by show _ + (asc _).toArray.size ≤ _; rw [List.size_toArray]; omega) hsz).mono ?_)
        rintro e W1 ⟨rfl, h1, b1⟩
        go_wp2
        go_roundw
        case rel =>
          refine ⟨k + 1, by go_num, by omega, ?_, hbw.trans b1⟩
          have : Lib.byteCells (asc (exps s (k + 1))) = Lib.byteCells (asc (exps s k)) ++ Lib.strCells ⟨(asc (expF ((s[k]'hp).toNat : Int))).toArray⟩ := by
            rw [exps, asc_append, Lib.byteCells_append, hb]; rfl
          rw [this]
          exact Or.inr h1
        case measure => simp [intOf]; omega
    · have hks : k = s.size := by omega
      subst hks
      go_wp2_with (go_at_call 126; refine (Tryd.Builder_String_any w.heap.size w.heap.size _ _ hI hsz).mono ?_)
      rintro e W1 ⟨rfl, b1⟩
      go_wp2
      go_ret
      exact ⟨rfl, hbw.trans b1⟩
end Go.Proofs.YtekifbnnkcgipaaDoor
