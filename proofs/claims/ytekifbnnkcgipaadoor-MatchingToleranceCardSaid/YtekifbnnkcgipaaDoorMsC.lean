/- Contract of giroref18's Check. Conditions: links that are links. -/
import Derived.Test.YtekifbnnkcgipaaDoorMsB
namespace Go.Proofs.YtekifbnnkcgipaaDoor
open Go.Sim

/-- A chain of tests, each with what is returned, and what is owed behind them. -/
def chainE : List (Bool × Int) → SV → Prop → Prop
  | [], _, E => E
  | (b, e) :: l, x, E => (b = true → Fin (iv e) x) ∧ (b = false → chainE l x E)
theorem chainE_ok {x : SV} {E : Prop} : ∀ {l : List (Bool × Int)}, (∀ y ∈ l, y.2 ≠ 0) → (firstR l ≠ 0 → x = iv (firstR l)) → (firstR l = 0 → E) → chainE l x E
  | [], _, _, h2 => h2 rfl
  | (b, e) :: l, hne, h1, h2 => by
    refine ⟨fun hb => fin_of ?_, fun hb => chainE_ok (fun y hy => hne y (List.mem_cons_of_mem _ hy)) (fun h => ?_) (fun h => ?_)⟩
    · simp only [firstR, hb, cond_true] at h1
      exact (h1 (hne _ List.mem_cons_self)).symm
    · simp only [firstR, hb, cond_false] at h1
      exact h1 h
    · simp only [firstR, hb, cond_false] at h2
      exact h2 h

theorem rvalid_pure (κ : Int) (s : ByteArray) : Pure Tryd.prog 109 [vI κ, vS s] (bv (validB κ s)) :=
  pure_vc (τ := tab) mixed (sp := table [(21, eRCheck)]) (table_ok ⟨eRCheck_ok, trivial⟩) Tryd.f109 Tryd.func109 (by kernel_rfl) rfl (by kernel_rfl) (fin_of (y := bv (validB κ s)) rfl) (by kernel_rfl)
def eIS (f : Int → ByteArray → SV) : Entry := fun args => match args with
  | [.val (.int .i64 a), .val (.string b)] => some ([], f a b)
  | _ => none
theorem eIS_ok {g : FuncId} {f : Int → ByteArray → SV} (hg : Sim.Enters Tryd.prog g) (h : ∀ (a : Int) (b : ByteArray), Pure Tryd.prog g [vI a, vS b] (f a b)) : EntryOk Tryd.prog g (eIS f) := by
  refine ⟨hg, fun args ps x hx hp => ?_⟩
  unfold eIS at hx
  split at hx
  · simp only [Option.some.injEq, Prod.mk.injEq] at hx
    obtain ⟨rfl, rfl⟩ := hx
    exact h _ _
  · cases hx
theorem rvalid_ok : EntryOk Tryd.prog 109 (eIS fun a b => bv (validB a b)) := eIS_ok (enters Tryd.f109 Tryd.func109 (by kernel_rfl)) rvalid_pure
def dayB (n : Int) : Bool := decide (n ≥ 0) && decide (n ≤ 73048)
theorem day_pure (n : Int) : Pure Tryd.prog 110 [vI n] (bv (dayB n)) :=
  pure_vc (τ := tab) mixed noSpec_ok Tryd.f110 Tryd.func110 (by kernel_rfl) rfl (by kernel_rfl) (fin_of (y := bv (dayB n)) rfl) (by kernel_rfl)
def eI1 (f : Int → SV) : Entry := fun args => match args with
  | [.val (.int .i64 a)] => some ([], f a)
  | _ => none
theorem eI1_ok {g : FuncId} {f : Int → SV} (hg : Sim.Enters Tryd.prog g) (h : ∀ a : Int, Pure Tryd.prog g [vI a] (f a)) : EntryOk Tryd.prog g (eI1 f) := by
  refine ⟨hg, fun args ps x hx hp => ?_⟩
  unfold eI1 at hx
  split at hx
  · simp only [Option.some.injEq, Prod.mk.injEq] at hx
    obtain ⟨rfl, rfl⟩ := hx
    exact h _
  · cases hx
theorem day_ok : EntryOk Tryd.prog 110 (eI1 fun n => bv (dayB n)) := eI1_ok (enters Tryd.f110 Tryd.func110 (by kernel_rfl)) day_pure

def Ins.bil (i : Ins) : Bool := decide (i.kind < 3)
def emp : ByteArray := ⟨#[]⟩
def most : Int := 1000000000000000
def rrules1 (i : Ins) : List (Bool × Int) := [
  (decide (i.kind < 0) || decide (i.kind > 4), 11), (!(validB 2 i.ref) || !(validB 1 i.sender), 6), (!i.bil && !(i.cp.toList == emp.toList), 3), (i.bil && !(validB 1 i.cp), 6), (i.bil && (i.cp.toList == i.sender.toList), 1),
  ((i.side != 0) && (i.side != 1), 11), (!i.isSec && (i.side != 0), 3), (((i.kind == 0) && !(i.asset.toList == cash.toList)) || (decide (i.kind > 0) && !(validB 0 i.asset)), 6),
  (((i.kind == 0) && (i.qty != 0)) || (decide (i.kind > 0) && (decide (i.qty < 1) || decide (i.qty > most))), 2),
  ((decide (i.kind < 2) && (decide (i.amt < 1) || decide (i.amt > most))) || (decide (i.kind ≥ 2) && (i.amt != 0)), 2),
  ((!(dayB i.sday) || (i.isSec && (decide (i.tday < 0) || decide (i.tday > i.sday)))) || (!i.isSec && (i.tday != 0)), 28),
  ((decide (i.prio < 0) || decide (i.prio > 2)) || (!i.bil && (i.prio != 0)), 2), (i.part && !i.isSec, 3),
  ((i.part && (decide (i.lot < 1) || decide (i.lot > i.qty))) || (!i.part && (i.lot != 0)), 2),
  (((i.hold && !i.bil) || (i.rsv && ((i.kind != 0) || (i.prio != 2)))) || (!i.bil && decide ((i.ln : Int) > 0)), 3), (decide ((i.ln : Int) > 8), 8)]
theorem rrules1_ne (i : Ins) : ∀ x ∈ rrules1 i, x.2 ≠ 0 := by
  intro x hx
  simp only [rrules1, List.mem_cons, List.not_mem_nil, or_false] at hx
  rcases hx with rfl | rfl | rfl | rfl | rfl | rfl | rfl | rfl | rfl | rfl | rfl | rfl | rfl | rfl | rfl | rfl <;> simp
theorem rrules1_few {i : Ins} (h : firstR (rrules1 i) = 0) : i.ln ≤ 8 := by
  have := firstR_zero (rrules1_ne i) h (decide ((i.ln : Int) > 8), 8) (by simp [rrules1])
  have := of_decide_eq_false this
  omega
/-- The first three rules of a link; the fourth asks for its reference ahead of it. -/
def rlink (i : Ins) (k : Nat) : List (Bool × Int) := [((i.lt k != 0) && (i.lt k != 1), 11), (!(validB 2 (i.lr k)), 6), ((i.lr k).toList == i.ref.toList, 26)]
theorem rlink_ne (i : Ins) (k : Nat) : ∀ x ∈ rlink i k, x.2 ≠ 0 := by
  intro x hx
  simp only [rlink, List.mem_cons, List.not_mem_nil, or_false] at hx
  rcases hx with rfl | rfl | rfl <;> simp
def rbad1 (i : Ins) (k : Nat) : Bool := (firstR (rlink i k) != 0) || hasRef k i.lr (i.lr k)
def rerr (i : Ins) (k : Nat) : Int := bif firstR (rlink i k) != 0 then firstR (rlink i k) else 7
def refCheck (i : Ins) : Int := bif firstR (rrules1 i) != 0 then firstR (rrules1 i) else match scan (rbad1 i) i.ln 0 with
  | some k => rerr i k
  | none => 0

def tabRc : List (Nat × Entry) := [(109, eIS fun a b => bv (validB a b)), (110, eI1 fun n => bv (dayB n))]
theorem tabRc_ok : SpecOk Tryd.prog (table tabRc) := table_ok ⟨rvalid_ok, day_ok, trivial⟩
def rcSt (i : Ins) (k : Int) : St := ⟨291, [(1, .loc 1 0), (5, iv k)], [], [(1, 45, i.cells.map .d)], [], 0⟩
def rcIn (i : Ins) (q : Nat) (k m : Int) : St := ⟨291, [(1, .loc 1 0), (5, iv k), (6, .loc 6 0), (7, iv m)], [], [(6, 121, [.d (vI (i.lt q)), .d (vS (i.lr q))]), (1, 45, i.cells.map .d)], [], 0⟩
def rcEnd : St := ⟨291, [], [], [(1, 45, [])], [], 0⟩
theorem scan_idx (p : Nat → Bool) (n : Nat) : decide (idxF p n ≥ 0) = true ↔ ∃ k, scan p n 0 = some k := by
  rcases idxF_cases p n with ⟨k, h1, _, h3⟩ | ⟨h1, h2⟩
  · rw [h1, h3]
    refine ⟨fun _ => ⟨k, rfl⟩, fun _ => decide_eq_true (by omega)⟩
  · rw [h1, h2]
    refine ⟨fun h => (by have := of_decide_eq_true h; omega), fun ⟨k, h⟩ => by cases h⟩
set_option maxRecDepth 100000 in
set_option maxHeartbeats 1000000 in
theorem rcheck_nrm (j : Ins) : Pure Tryd.prog 69 [j.nrm.rv] (iv (refCheck j)) := by
  refine pure_list (τ := tab) Tryd.f69 Tryd.func69 (by kernel_rfl) rfl (by kernel_rfl) ?_
  have key1 : chainE (rrules1 j) (iv (refCheck j)) (∃ _ : Unit, firstR (rrules1 j) = 0 ∧ some (rcSt j.nrm 0) = some (rcSt j.nrm 0)) :=
    chainE_ok (rrules1_ne j) (fun h => by unfold refCheck; rw [bne_iff_ne.2 h]; rfl) fun h => ⟨(), h, rfl⟩
  refine wpL_cut (τ := tab) (sp := table tabRc) mixed tabRc_ok 35 (.keep [1, 5]) (fun _ : Unit => firstR (rrules1 j) = 0) (fun _ => rcSt j.nrm 0) (Eq.mp (by kernel_rfl) key1) fun _ h1 => ?_
  have hfew := rrules1_few h1
  have hmc : refCheck j = match scan (rbad1 j) j.ln 0 with
    | some k => rerr j k
    | none => 0 := by unfold refCheck; rw [h1]; rfl
  refine wpL_loop (by kernel_rfl) (fun k : Nat => rcSt j.nrm k) (fun k => j.ln - k) (fun k => k ≤ j.ln ∧ scan (rbad1 j) (j.ln - k) k = scan (rbad1 j) j.ln 0) (.keep [1, 5]) (.keep [1]) (fun _ : Unit => refCheck j = 0) (fun _ => ⟨291, [(1, .loc 1 0)], [], [(1, 45, j.nrm.cells.map .d)], [], 0⟩) 0 ⟨Nat.zero_le _, rfl⟩ (fun k hk => ?_) fun _ hy => ?_
  · obtain ⟨hk, hsc⟩ := hk
    have keyA : (decide ((k : Int) < (j.ln : Int)) = true → ∃ _ : Unit, k < j.ln ∧ some (rcSt j.nrm k) = some (rcSt j.nrm k)) ∧
        (decide ((k : Int) < (j.ln : Int)) = false → ∃ y : Unit, refCheck j = 0 ∧ some (⟨291, [(1, .loc 1 0)], [], [(1, 45, j.nrm.cells.map .d)], [], 0⟩ : St) = some ((fun _ => ⟨291, [(1, .loc 1 0)], [], [(1, 45, j.nrm.cells.map .d)], [], 0⟩) y)) := by
      refine ⟨fun h => ⟨(), by have := of_decide_eq_true h; omega, rfl⟩, fun h => ⟨(), ?_, rfl⟩⟩
      have hge : k = j.ln := by have := of_decide_eq_false h; omega
      rw [hge, Nat.sub_self] at hsc
      rw [hmc, ← hsc]; rfl
    refine wpL_cut (τ := tab) (sp := table tabRc) mixed tabRc_ok 2 (.keep [1, 5]) (fun _ : Unit => k < j.ln) (fun _ => rcSt j.nrm k) (Eq.mp (by kernel_rfl) keyA) fun _ hlt => ?_
    obtain ⟨m0, hm0⟩ : ∃ m, j.ln - k = m + 1 := ⟨j.ln - k - 1, by omega⟩
    rw [hm0, scan] at hsc
    refine wpL_block (by kernel_rfl) (.both (.keep [1, 5]) (.noBox [6])) (fun _ : Unit => rbad1 j k = false) (fun _ => rcSt j.nrm k) ?_ fun _ hb => ?_
    · -- the link
      have keyB : ((0 : Int) ≤ k ∧ (k : Int) < (j.ln : Int)) ∧ chainE (rlink j k) (iv (refCheck j)) (∃ _ : Unit, firstR (rlink j k) = 0 ∧ some (rcIn j.nrm k k 0) = some (rcIn j.nrm k k 0)) := by
        refine ⟨⟨by omega, by omega⟩, chainE_ok (rlink_ne j k) (fun h => ?_) fun h => ⟨(), h, rfl⟩⟩
        have hb : rbad1 j k = true := by unfold rbad1; rw [bne_iff_ne.2 h]; rfl
        rw [hb] at hsc
        rw [hmc, ← hsc]
        simp only [cond_true, rerr, bne_iff_ne.2 h]
      refine wpL_cut (τ := tab) (sp := table tabRc) mixed tabRc_ok 8 (.keep [1, 5, 6, 7]) (fun _ : Unit => firstR (rlink j k) = 0) (fun _ => rcIn j.nrm k k 0) (Eq.mp (by kernel_rfl) keyB) fun _ hl0 => ?_
      refine wpL_loop (by kernel_rfl) (fun m : Nat => rcIn j.nrm k k m) (fun m => k - m) (fun m => m ≤ k ∧ scan (sameP j.lr (j.lr k)) (k - m) m = scan (sameP j.lr (j.lr k)) k 0) (.keep [1, 5, 6, 7]) (.both (.keep [1, 5]) (.noBox [6])) (fun _ : Unit => rbad1 j k = false) (fun _ => rcSt j.nrm k) 0 ⟨Nat.zero_le _, rfl⟩ (fun m hm => ?_) fun _ hb => ?_
      · obtain ⟨hm, hs2⟩ := hm
        have keyC : (decide ((m : Int) < (k : Int)) = true → ((0 : Int) ≤ m ∧ (m : Int) < (j.ln : Int)) ∧ (sameP j.lr (j.lr k) m = true → Fin (iv 7) (iv (refCheck j))) ∧
              (sameP j.lr (j.lr k) m = false → ∃ m' : Nat, k - m' < k - m ∧ (m' ≤ k ∧ scan (sameP j.lr (j.lr k)) (k - m') m' = scan (sameP j.lr (j.lr k)) k 0) ∧ some (rcIn j.nrm k k (IntKind.i64.wrap ((m : Int) + 1))) = some (rcIn j.nrm k k m'))) ∧
            (decide ((m : Int) < (k : Int)) = false → ∃ y : Unit, rbad1 j k = false ∧ some (rcSt j.nrm k) = some ((fun _ => rcSt j.nrm k) y)) := by
          refine ⟨fun h => ?_, fun h => ⟨(), ?_, rfl⟩⟩
          · have hmk : m < k := by have := of_decide_eq_true h; omega
            obtain ⟨m2, hm2⟩ : ∃ m2, k - m = m2 + 1 := ⟨k - m - 1, by omega⟩
            rw [hm2, scan] at hs2
            refine ⟨⟨by omega, by omega⟩, fun hb => fin_of ?_, fun hb => ⟨m + 1, by omega, ⟨by omega, ?_⟩, by rw [i64_succ m (by omega)]⟩⟩
            · rw [hb] at hs2
              have hd : hasRef k j.lr (j.lr k) = true := (scan_idx _ _).2 ⟨m, by rw [← hs2]; rfl⟩
              have hb' : rbad1 j k = true := by unfold rbad1; rw [hd, Bool.or_true]
              rw [hb'] at hsc
              rw [hmc, ← hsc]
              simp only [cond_true, rerr, hl0]; rfl
            · rw [hb] at hs2
              rw [← hs2, show k - (m + 1) = m2 by omega]; rfl
          · have hge : m = k := by have := of_decide_eq_false h; omega
            rw [hge, Nat.sub_self] at hs2
            have hd : hasRef k j.lr (j.lr k) = false := by
              cases hh : hasRef k j.lr (j.lr k) with
              | false => rfl
              | true =>
                obtain ⟨q, hq⟩ := (scan_idx _ _).1 hh
                rw [← hs2] at hq; cases hq
            unfold rbad1
            rw [hl0, hd]; rfl
        exact vcL_end (τ := tab) (sp := table tabRc) mixed tabRc_ok _ _ _ (Eq.mp (by kernel_rfl) keyC)
      · exact vcL_end (τ := tab) (sp := table tabRc) mixed tabRc_ok [] _ _ ⟨(), hb, rfl⟩
    · rw [hb] at hsc
      have keyD : ∃ k' : Nat, j.ln - k' < j.ln - k ∧ (k' ≤ j.ln ∧ scan (rbad1 j) (j.ln - k') k' = scan (rbad1 j) j.ln 0) ∧ some (rcSt j.nrm (IntKind.i64.wrap ((k : Int) + 1))) = some (rcSt j.nrm k') :=
        ⟨k + 1, by omega, ⟨by omega, by rw [← hsc, show j.ln - (k + 1) = m0 by omega]; rfl⟩, by rw [i64_succ k (by omega)]⟩
      exact vcL_end (τ := tab) (sp := table tabRc) mixed tabRc_ok _ _ _ (Eq.mp (by kernel_rfl) keyD)
  · exact vcL_end (τ := tab) (sp := table tabRc) mixed tabRc_ok _ _ _ (Eq.mp (by kernel_rfl) (fin_of (y := iv 0) (x := iv (refCheck j)) (by rw [hy])))
theorem rcheck_ok : EntryOk Tryd.prog 69 (eIn1 fun i => iv (refCheck i)) := eIn1_ok (enters Tryd.f69 Tryd.func69 (by kernel_rfl)) rcheck_nrm
end Go.Proofs.YtekifbnnkcgipaaDoor
