/- Contract of giro/ident's mod97. Conditions: all bytes are capital letters or digits, at most 1000 of them. -/
import Derived.Test.YtekifbnnkcgipaaDoorIdL
import Derived.Lib.OthersKept
import Derived.Laws.RangeAny
namespace Go.Proofs.YtekifbnnkcgipaaDoor
open Go.RowKit Go.Proofs
open Go.Sim (byteAt)

def m97 (l : List Nat) : Nat := l.foldl (fun r d => (10 * r + d) % 97) 0
theorem m97_push (l : List Nat) (d : Nat) : m97 (l ++ [d]) = (10 * m97 l + d) % 97 := by simp [m97]
theorem m97_lt (l : List Nat) : m97 l < 97 := by
  rcases List.eq_nil_or_concat l with rfl | ⟨l', d, h⟩
  · decide
  · rw [h, List.concat_eq_append, m97_push]; omega
theorem digStr_append (l m : List Nat) : digStr l ++ digStr m = digStr (l ++ m) := by
  apply ByteArray.ext
  simp [digStr, asc]
theorem digStr_get {l : List Nat} (h : ∀ d ∈ l, d < 10) {j : Nat} (hj : j < (digStr l).size) : ((digStr l)[j]'hj).toNat = 48 + l.getD j 0 := by
  have h1 := digStr_at h (j := j) (by rw [← digStr_size]; exact hj)
  rw [byteAt_of hj] at h1
  omega
/-- Two digits. -/
def pairStr (n : Nat) : ByteArray := digStr [n / 10, n % 10]
theorem itoa_small {n : Nat} (h : n < 10) : itoaStr n = digStr [n] := by
  unfold itoaStr Lib.decDigits
  rw [dif_pos h]; rfl
theorem itoa_two {n : Nat} (h : ¬ n < 10) (h2 : n < 100) : itoaStr n = pairStr n := by
  unfold itoaStr Lib.decDigits
  rw [dif_neg h]
  unfold Lib.decDigits
  rw [dif_pos (by omega)]; rfl

theorem itoa_walk (k : Nat) (hk : k < 100) (n : Int) (hn : n = k) (w : World) : Calls Tryd.prog 121 #[.int .i64 n] w fun e w' => e = .returned (.string (itoaStr k)) ∧ w' = w := by
  rw [hn]; exact Tryd.strconv_Itoa_small k hk w

theorem m97_round (m d : Nat) (hm : m < 97) (hd : d < 10) : (wrap64 (wrap64 (10 * (m : Int)) + wrap64 (wrap32 (48 + (d : Int) - 48)))).tmod 97 = (((10 * m + d) % 97 : Nat) : Int) := by
  have e1 : wrap32 (48 + (d : Int) - 48) = d := by rw [IntWalk.wrap32_in _ ⟨by omega, by omega⟩]; omega
  have e2 : wrap64 (d : Int) = d := IntWalk.wrap64_in _ ⟨by omega, by omega⟩
  have e3 : wrap64 (10 * (m : Int)) = 10 * (m : Int) := IntWalk.wrap64_in _ ⟨by omega, by omega⟩
  have e4 : wrap64 (10 * (m : Int) + d) = 10 * (m : Int) + d := IntWalk.wrap64_in _ ⟨by omega, by omega⟩
  rw [e1, e2, e3, e4, Int.tmod_eq_emod_of_nonneg (by omega)]
  omega
set_option maxHeartbeats 4000000 in
set_option maxRecDepth 1000000 in
theorem mod97_walk (s : ByteArray) (w : World) (hs : s.size ≤ 1000) (ha : alnum s s.size) :
    Calls Tryd.prog 97 #[.string s] w fun e w' => e = .returned (.string (pairStr (98 - m97 (exps s s.size ++ [0, 0])))) ∧ Below w.heap.size w w' := by
  have hdig : ∀ d ∈ exps s s.size ++ [0, 0], d < 10 := fun d hd => by
    rcases List.mem_append.1 hd with hd | hd
    · exact exps_lt ha d hd
    · simp at hd; omega
  have hexp := exps_len s s.size
  go_enter Tryd.func97, Tryd.ntmps97
  go_wp2_with (go_at_call 120; refine (expand_walk s _ hs ha).mono ?_)
  rintro e w1 ⟨rfl, hb1⟩
  have hal : (asc (exps s s.size)).length ≤ 2000 := by simp only [asc, List.length_map]; omega
  have hLl : (exps s s.size ++ [0, 0]).length ≤ 2002 := by simp; omega
  go_wp2
  generalize hL : exps s s.size ++ [0, 0] = L at *
  go_loopw [3] (fun r wr => ∃ pos : Nat, r = .int .i64 (m97 (L.take pos) : Nat) ∧ pos ≤ L.length ∧ wr.heap[w1.heap.size]? = some (.stringIter (digStr L) pos) ∧ Below w.heap.size w wr) (fun _ wr => L.length - wr.iterPos w1.heap.size)
  case atStart =>
    refine ⟨0, rfl, by omega, ?_, hb1.alloc (hb1.size) _⟩
    have := World.iter_heap w1 ({ data := (asc (exps s s.size)).toArray } ++ { data := #[48, 48] }) 0
    rw [this, ← hL, ← digStr_append]
    rfl
  case round =>
    obtain ⟨pos, rfl, hpos, hit, hbw⟩ := hrel
    by_cases hp : pos < (digStr L).size
    · have hlp : pos < L.length := by rw [← digStr_size]; exact hp
      have hget := digStr_get hdig hp
      have hd10 : L.getD pos 0 < 10 := by
        rw [List.getD_eq_getElem?_getD, List.getElem?_eq_getElem hlp]; exact hdig _ (List.getElem_mem _)
      have hnx : ∀ ty, (Instr.next (.pointer (some ⟨w1.heap.size, 0, none⟩)) true ty).run Tryd.prog wr = _ := fun ty => Lib.run_next_ascii_at wr w1.heap.size (digStr L) pos ty hit hp (by omega)
      have hit2 := Lib.iterAt_heap wr w1.heap.size (digStr L) pos (pos + 1) hit
      have hbw2 := Lib.below_iterAt hbw (k := w1.heap.size) hb1.size (digStr L) (pos + 1)
      go_wp2
      have hm := m97_lt (L.take pos)
      have hm2 : m97 (L.take (pos + 1)) = (10 * m97 (L.take pos) + L.getD pos 0) % 97 := by
        rw [List.take_succ_eq_append_getElem hlp, m97_push, List.getD_eq_getElem?_getD, List.getElem?_eq_getElem hlp]; rfl
      have hg : L[pos] = L.getD pos 0 := by rw [List.getD_eq_getElem?_getD, List.getElem?_eq_getElem hlp]; rfl
      go_roundw
      case rel =>
        refine ⟨pos + 1, ?_, by omega, hit2, hbw2⟩
        rw [hm2, hg]
        rw [m97_round _ _ hm hd10]
      case measure =>
        simp only [World.iterPos, hit2, hit]
        omega
    · have hpl : pos = L.length := by rw [digStr_size] at hp; omega
      have hnx : ∀ ty, (Instr.next (.pointer (some ⟨w1.heap.size, 0, none⟩)) true ty).run Tryd.prog wr = _ := fun ty => Lib.run_next_end_at wr w1.heap.size (digStr L) pos ty hit hp
      have hm := m97_lt L
      rw [hpl, List.take_length]
      go_wp2_with (go_at_call 121; refine (itoa_walk (98 - m97 L) (by omega) _ (by omega) _).mono ?_)
      rintro e W2 ⟨rfl, rfl⟩
      by_cases h10 : 98 - m97 L < 10
      · rw [itoa_small h10]
        have hsz1 : (digStr [98 - m97 L]).size = 1 := rfl
        go_wp2
        go_ret
        refine ⟨?_, hbw⟩
        rw [hL]
        unfold pairStr
        have e : (98 - m97 L) / 10 = 0 ∧ (98 - m97 L) % 10 = 98 - m97 L := by omega
        rw [e.1, e.2, show [0, 98 - m97 L] = [0] ++ [98 - m97 L] from rfl, ← digStr_append]
        rfl
      · rw [itoa_two h10 (by omega)]
        have hsz2 : (pairStr (98 - m97 L)).size = 2 := rfl
        go_wp2
        go_ret
        exact ⟨by rw [hL]; rfl, hbw⟩
end Go.Proofs.YtekifbnnkcgipaaDoor
