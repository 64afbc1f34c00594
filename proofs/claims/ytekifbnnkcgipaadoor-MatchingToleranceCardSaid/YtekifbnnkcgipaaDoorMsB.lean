/- Contracts of giro/message's first, of its search for a link's reference, and of (Instruction).Check. Conditions: links that are links. -/
import Derived.Test.YtekifbnnkcgipaaDoorMsA
namespace Go.Proofs.YtekifbnnkcgipaaDoor
open Go.Sim

/-- The error of the first rule that is broken. -/
def firstS (b : Nat → Bool) (e : Nat → Int) (m k : Nat) : Int := match scan b m k with
  | some j => e j
  | none => 0
theorem firstS_zero (b : Nat → Bool) (e : Nat → Int) (k : Nat) : firstS b e 0 k = 0 := rfl
theorem firstS_succ (b : Nat → Bool) (e : Nat → Int) (m k : Nat) : firstS b e (m + 1) k = bif b k then e k else firstS b e m (k + 1) := by
  unfold firstS
  simp only [scan]
  cases b k <;> rfl
def rb : RV → Bool
  | .agg [.val (.bool b), _] => b
  | _ => false
def re : RV → Int
  | .agg [_, .val (.int .i64 e)] => e
  | _ => 0
def okRules (n : Nat) (f : Nat → RV) : Prop := ∀ k, k < n → f k = ruleRV (rb (f k), re (f k))
def rowR (l : List (Bool × Int)) : Nat → RV := fun k => (l.map ruleRV).getD k default
theorem rowR_ok (l : List (Bool × Int)) : okRules l.length (rowR l) := by
  intro k hk
  have : rowR l k = ruleRV l[k] := by
    unfold rowR
    rw [List.getD_eq_getElem?_getD, List.getElem?_map, List.getElem?_eq_getElem hk]; rfl
  rw [this]; rfl
theorem firstS_list (l : List (Bool × Int)) : ∀ m k, k + m = l.length → firstS (fun k => rb (rowR l k)) (fun k => re (rowR l k)) m k = firstR (l.drop k)
  | 0, k, h => by rw [firstS_zero, List.drop_of_length_le (by omega)]; rfl
  | m + 1, k, h => by
    have hk : k < l.length := by omega
    have e : rowR l k = ruleRV l[k] := by
      unfold rowR
      rw [List.getD_eq_getElem?_getD, List.getElem?_map, List.getElem?_eq_getElem hk]; rfl
    rw [firstS_succ, firstS_list l m (k + 1) (by omega), List.drop_eq_getElem_cons hk, e]
    rfl
theorem first_list (l : List (Bool × Int)) : firstS (fun k => rb (rowR l k)) (fun k => re (rowR l k)) l.length 0 = firstR l := by
  rw [firstS_list l l.length 0 (by omega)]; rfl

def eIdxRule : Entry := fun args => match args with
  | [.row sz n f, .val (.func (.func g) ⟨[]⟩ ⟨[]⟩)] => match Nat.beq sz 2 && Nat.beq g 112 with
    | true => some ([n ≤ 1000, okRules n f], iv (idxF (fun k => rb (f k)) n))
    | false => none
  | _ => none
theorem cells_two {N : Nat → Prop} {w : World} {x y z : RV} (h : ∀ v, RDen N w x v → RDen N w y v) {vs : List Value} (hc : Cells N w [x, z] vs) : Cells N w [y, z] vs := by
  refine ⟨hc.1, fun j u v hu hv => ?_⟩
  match j, hu with
  | 0, hu => simp at hu; subst hu; exact h v (hc.2 0 x v rfl hv)
  | 1, hu => exact hc.2 1 u v hu hv
theorem eIdxRule_ok : EntryOk Tryd.prog 111 eIdxRule := by
  refine ⟨enters Tryd.f111 Tryd.func111 (by kernel_rfl), fun args ps x h hp => ?_⟩
  unfold eIdxRule at h
  split at h
  · rename_i sz n f g
    split at h
    · rename_i hc
      simp only [Bool.and_eq_true] at hc
      simp only [Option.some.injEq, Prod.mk.injEq] at h
      obtain ⟨rfl, rfl⟩ := h
      have h1 : n ≤ 1000 := hp _ (by simp)
      have h2 : okRules n f := hp _ (by simp)
      rw [Nat.eq_of_beq_eq_true hc.1, Nat.eq_of_beq_eq_true hc.2]
      exact pure_args (idxRule_pure n h1 (fun k => rb (f k)) (fun k => re (f k))) fun N w vs hc => cells_two (fun v hv => RDen.row_le hv h2) hc
    · cases h
  · cases h
def tabFi : List (Nat × Entry) := [(111, eIdxRule)]
theorem tabFi_ok : SpecOk Tryd.prog (table tabFi) := table_ok ⟨eIdxRule_ok, trivial⟩
theorem idxF_cases (p : Nat → Bool) (n : Nat) : (∃ k, scan p n 0 = some k ∧ k < n ∧ idxF p n = k) ∨ (scan p n 0 = none ∧ idxF p n = -1) := by
  unfold idxF
  cases h : scan p n 0 with
  | none => exact .inr ⟨rfl, rfl⟩
  | some k =>
    refine .inl ⟨k, rfl, ?_, rfl⟩
    have : ∀ {m i j : Nat}, scan p m i = some j → j < i + m := by
      intro m
      induction m with
      | zero => intro i j h; cases h
      | succ m ih =>
        intro i j h
        simp only [scan] at h
        cases hp : p i with
        | true => rw [hp] at h; simp at h; omega
        | false => rw [hp] at h; have := ih (i := i + 1) h; omega
    have := this h; omega
theorem first_pure (n : Nat) (hn : n ≤ 1000) (b : Nat → Bool) (e : Nat → Int) : Pure Tryd.prog 76 [.row 2 n (rulesF b e)] (iv (firstS b e n 0)) := by
  have key : (n ≤ 1000) ∧ okRules n (rulesF b e) ∧ (decide (idxF b n ≥ 0) = true → (0 ≤ idxF b n ∧ idxF b n < (n : Int)) ∧ Fin (iv (e (idxF b n).toNat)) (iv (firstS b e n 0))) ∧
      (decide (idxF b n ≥ 0) = false → Fin (iv 0) (iv (firstS b e n 0))) := by
    refine ⟨hn, fun k _ => rfl, fun h => ?_, fun h => ?_⟩
    · rcases idxF_cases b n with ⟨k, h1, h2, h3⟩ | ⟨h1, h2⟩
      · rw [h3]
        exact ⟨⟨by omega, by omega⟩, fin_of (by unfold firstS; rw [h1, Int.toNat_natCast])⟩
      · rw [h2] at h; cases h
    · rcases idxF_cases b n with ⟨k, h1, h2, h3⟩ | ⟨h1, h2⟩
      · rw [h3] at h; have := of_decide_eq_false h; omega
      · exact fin_of (by unfold firstS; rw [h1])
  exact pure_vc (τ := tab) mixed tabFi_ok Tryd.f76 Tryd.func76 (by kernel_rfl) rfl (by kernel_rfl) key (by kernel_rfl)
def eFirst : Entry := fun args => match args with
  | [.row sz n f] => match Nat.beq sz 2 with
    | true => some ([n ≤ 1000, okRules n f], iv (firstS (fun k => rb (f k)) (fun k => re (f k)) n 0))
    | false => none
  | _ => none
theorem eFirst_ok : EntryOk Tryd.prog 76 eFirst := by
  refine ⟨enters Tryd.f76 Tryd.func76 (by kernel_rfl), fun args ps x h hp => ?_⟩
  unfold eFirst at h
  split at h
  · rename_i sz n f
    split at h
    · rename_i hc
      simp only [Option.some.injEq, Prod.mk.injEq] at h
      obtain ⟨rfl, rfl⟩ := h
      rw [Nat.eq_of_beq_eq_true hc]
      have h2 : okRules n f := hp _ (by simp)
      exact pure_args (first_pure n (hp _ (by simp)) (fun k => rb (f k)) (fun k => re (f k))) fun N w vs hc => cells_one (fun v hv => RDen.row_le hv h2) hc
    · cases h
  · cases h

/-- A link. -/
def lkRV (t : Int) (r : ByteArray) : RV := .agg [vI t, vS r]
def lkT : RV → Int
  | .agg [.val (.int .i64 t), _] => t
  | _ => 0
def lkR : RV → ByteArray
  | .agg [_, .val (.string r)] => r
  | _ => ⟨#[]⟩
def okLinks (n : Nat) (f : Nat → RV) : Prop := ∀ k, k < n → f k = lkRV (lkT (f k)) (lkR (f k))
def lkF (t : Nat → Int) (r : Nat → ByteArray) : Nat → RV := fun k => lkRV (t k) (r k)
def Ins.lt (i : Ins) (k : Nat) : Int := lkT (i.lf k)
def Ins.lr (i : Ins) (k : Nat) : ByteArray := lkR (i.lf k)
def Ins.wf (i : Ins) : Prop := okLinks i.ln i.lf
def Ins.nrm (i : Ins) : Ins := { i with lf := lkF i.lt i.lr }
def rowL (n : Nat) (f : Nat → RV) : RV := .row 2 n f

def eSameRef : Entry := fun args => match args with
  | [.agg [.val (.int .i64 _), .val (.string a)], .ref [.val (.int .i64 _), .val (.string b)]] => some ([], bv (a.toList == b.toList))
  | _ => none
theorem sameRef_pure (t u : Int) (a b : ByteArray) : Pure Tryd.prog 85 [lkRV t a, .ref [vI u, vS b]] (bv (a.toList == b.toList)) :=
  pure_vc (τ := tab) mixed noSpec_ok Tryd.f85 Tryd.func85 (by kernel_rfl) rfl (by kernel_rfl) (fin_of (y := bv (a.toList == b.toList)) rfl) (by kernel_rfl)
theorem eSameRef_ok : EntryOk Tryd.prog 85 eSameRef := by
  refine ⟨enters Tryd.f85 Tryd.func85 (by kernel_rfl), fun args ps x h hp => ?_⟩
  unfold eSameRef at h
  split at h
  · simp only [Option.some.injEq, Prod.mk.injEq] at h
    obtain ⟨rfl, rfl⟩ := h
    exact sameRef_pure _ _ _ _
  · cases h
def tabSr : List (Nat × Entry) := [(85, eSameRef)]
theorem tabSr_ok : SpecOk Tryd.prog (table tabSr) := table_ok ⟨eSameRef_ok, trivial⟩
def sameP (r : Nat → ByteArray) (b : ByteArray) (k : Nat) : Bool := (r k).toList == b.toList
def cloRef (u : Int) (b : ByteArray) : RV := .clo 85 [.ref [vI u, vS b]]
set_option maxRecDepth 100000 in
theorem idxLink_pure (n : Nat) (hn : n ≤ 1000) (t : Nat → Int) (r : Nat → ByteArray) (u : Int) (b : ByteArray) :
    Pure Tryd.prog 113 [.row 2 n (lkF t r), cloRef u b] (iv (idxF (sameP r b) n)) := by
  refine pure_list (τ := tab) Tryd.f113 Tryd.func113 (by kernel_rfl) rfl (by kernel_rfl) ?_
  refine wpL_cut (τ := tab) (sp := table tabSr) mixed tabSr_ok 2 (.keep [0, 1, 7, 8]) (fun _ : Unit => True) (fun _ => ixSt 19 (.row 2 n (lkF t r)) (cloRef u b) n 0)
    (Eq.mp (by kernel_rfl) (show ∃ _ : Unit, True ∧ some (ixSt 19 (.row 2 n (lkF t r)) (cloRef u b) n 0) = some (ixSt 19 (.row 2 n (lkF t r)) (cloRef u b) n 0) from ⟨(), trivial, rfl⟩)) fun _ _ => ?_
  refine wpL_loop (by kernel_rfl) (fun k : Nat => ixSt 19 (.row 2 n (lkF t r)) (cloRef u b) n k) (fun k => n - k) (fun k => k ≤ n ∧ scan (sameP r b) (n - k) k = scan (sameP r b) n 0) (.keep [0, 1, 7, 8]) (.keep []) (fun _ : Unit => idxF (sameP r b) n = -1) (fun _ => ⟨19, [], [], [], [], 0⟩) 0 ⟨Nat.zero_le n, rfl⟩ (fun k hk => ?_) fun _ hy => ?_
  · obtain ⟨hk, hsc⟩ := hk
    have key : (decide ((k : Int) < (n : Int)) = true → ((0 : Int) ≤ k ∧ (k : Int) < (n : Int)) ∧ (sameP r b k = true → Fin (iv k) (iv (idxF (sameP r b) n))) ∧
          (sameP r b k = false → ∃ k' : Nat, n - k' < n - k ∧ (k' ≤ n ∧ scan (sameP r b) (n - k') k' = scan (sameP r b) n 0) ∧ some (ixSt 19 (.row 2 n (lkF t r)) (cloRef u b) n (IntKind.i64.wrap ((k : Int) + 1))) = some (ixSt 19 (.row 2 n (lkF t r)) (cloRef u b) n k'))) ∧
        (decide ((k : Int) < (n : Int)) = false → ∃ y : Unit, idxF (sameP r b) n = -1 ∧ some (⟨19, [], [], [], [], 0⟩ : St) = some ((fun _ => ⟨19, [], [], [], [], 0⟩) y)) := by
      refine ⟨fun h => ?_, fun h => ?_⟩
      · have hlt : k < n := by have := of_decide_eq_true h; omega
        obtain ⟨m, hm⟩ : ∃ m, n - k = m + 1 := ⟨n - k - 1, by omega⟩
        rw [hm, scan] at hsc
        refine ⟨⟨by omega, by omega⟩, fun hb => fin_of ?_, fun hb => ⟨k + 1, by omega, ⟨by omega, ?_⟩, by rw [i64_succ k (by omega)]⟩⟩
        · rw [hb] at hsc
          unfold idxF
          rw [← hsc]; rfl
        · rw [hb] at hsc
          rw [← hsc, show n - (k + 1) = m by omega]; rfl
      · have hge : k = n := by have := of_decide_eq_false h; omega
        subst hge
        refine ⟨(), ?_, rfl⟩
        unfold idxF
        rw [← hsc, Nat.sub_self]; rfl
    exact vcL_end (τ := tab) (sp := table tabSr) mixed tabSr_ok _ _ _ (Eq.mp (by kernel_rfl) key)
  · exact vcL_end (τ := tab) (sp := table tabSr) mixed tabSr_ok _ _ _ (Eq.mp (by kernel_rfl) (fin_of (y := iv (-1)) (x := iv (idxF (sameP r b) n)) (by rw [hy])))
def eIdxLink : Entry := fun args => match args with
  | [.row sz n f, .clo g [.ref [.val (.int .i64 u), .val (.string b)]]] => match Nat.beq sz 2 && Nat.beq g 85 with
    | true => some ([n ≤ 1000, okLinks n f], iv (idxF (sameP (fun k => lkR (f k)) b) n))
    | false => none
  | _ => none
theorem eIdxLink_ok : EntryOk Tryd.prog 113 eIdxLink := by
  refine ⟨enters Tryd.f113 Tryd.func113 (by kernel_rfl), fun args ps x h hp => ?_⟩
  unfold eIdxLink at h
  split at h
  · rename_i sz n f g u b
    split at h
    · rename_i hc
      simp only [Bool.and_eq_true] at hc
      simp only [Option.some.injEq, Prod.mk.injEq] at h
      obtain ⟨rfl, rfl⟩ := h
      have h1 : n ≤ 1000 := hp _ (by simp)
      have h2 : okLinks n f := hp _ (by simp)
      rw [Nat.eq_of_beq_eq_true hc.1, Nat.eq_of_beq_eq_true hc.2]
      exact pure_args (idxLink_pure n h1 (fun k => lkT (f k)) (fun k => lkR (f k)) u b) fun N w vs hc => cells_two (fun v hv => RDen.row_le hv h2) hc
    · cases h
  · cases h
def tabDu : List (Nat × Entry) := [(113, eIdxLink)]
theorem tabDu_ok : SpecOk Tryd.prog (table tabDu) := table_ok ⟨eIdxLink_ok, trivial⟩
def hasRef (n : Nat) (r : Nat → ByteArray) (b : ByteArray) : Bool := decide (idxF (sameP r b) n ≥ 0)
theorem dup_pure (n : Nat) (hn : n ≤ 1000) (t : Nat → Int) (r : Nat → ByteArray) (u : Int) (b : ByteArray) :
    Pure Tryd.prog 84 [.row 2 n (lkF t r), cloRef u b] (bv (hasRef n r b)) :=
  pure_vc (τ := tab) mixed tabDu_ok Tryd.f84 Tryd.func84 (by kernel_rfl) rfl (by kernel_rfl)
    (⟨hn, fun k _ => rfl, fin_of (y := bv (hasRef n r b)) rfl⟩ : (n ≤ 1000) ∧ okLinks n (lkF t r) ∧ Fin (bv (hasRef n r b)) (bv (hasRef n r b))) (by kernel_rfl)
def eDup : Entry := fun args => match args with
  | [.row sz n f, .clo g [.ref [.val (.int .i64 u), .val (.string b)]]] => match Nat.beq sz 2 && Nat.beq g 85 with
    | true => some ([n ≤ 1000, okLinks n f], bv (hasRef n (fun k => lkR (f k)) b))
    | false => none
  | _ => none
theorem eDup_ok : EntryOk Tryd.prog 84 eDup := by
  refine ⟨enters Tryd.f84 Tryd.func84 (by kernel_rfl), fun args ps x h hp => ?_⟩
  unfold eDup at h
  split at h
  · rename_i sz n f g u b
    split at h
    · rename_i hc
      simp only [Bool.and_eq_true] at hc
      simp only [Option.some.injEq, Prod.mk.injEq] at h
      obtain ⟨rfl, rfl⟩ := h
      have h1 : n ≤ 1000 := hp _ (by simp)
      have h2 : okLinks n f := hp _ (by simp)
      rw [Nat.eq_of_beq_eq_true hc.1, Nat.eq_of_beq_eq_true hc.2]
      exact pure_args (dup_pure n h1 (fun k => lkT (f k)) (fun k => lkR (f k)) u b) fun N w vs hc => cells_two (fun v hv => RDen.row_le hv h2) hc
    · cases h
  · cases h

/-- The rules of an instruction, and of its k-th link. -/
def rules1 (i : Ins) : List (Bool × Int) := [
  (!(wI i.kind 0 4), 11), (!(validB 2 i.ref), 6), (!(validB 1 i.sender), 6), (i.isCol && !(i.cp.toList == (⟨#[]⟩ : ByteArray).toList), 3), (!i.isCol && !(validB 1 i.cp), 6), (i.cp.toList == i.sender.toList, 1),
  (!(wI i.side 0 1), 11), (!i.isSec && (i.side != 0), 3), (!i.isAst, 6), (!(bndB i.qty (i.kind != 0)), 2), (!(bndB i.amt ((i.kind == 0) || (i.kind == 1))), 2), (!(wI i.sday 0 73048), 28),
  ((i.isSec && !(wI i.tday 0 i.sday)) || (!i.isSec && (i.tday != 0)), 28), (!(wI i.prio 0 2) || (i.isCol && (i.prio != 0)), 2), (i.part && !i.isSec, 3), ((i.part && decide (i.lot < 1)) || !(wI i.lot 0 i.maxLot), 2),
  (i.hold && i.isCol, 3), (i.rsv && ((i.kind != 0) || (i.prio != 2)), 3), (i.isCol && decide ((i.ln : Int) > 0), 3), (decide ((i.ln : Int) > 8), 8)]
def rules2 (i : Ins) (k : Nat) : List (Bool × Int) := [(!(wI (i.lt k) 0 1), 11), (!(validB 2 (i.lr k)), 6), ((i.lr k).toList == i.ref.toList, 26), (hasRef k i.lr (i.lr k), 7)]
def bad2 (i : Ins) (k : Nat) : Bool := firstR (rules2 i k) != 0
def msgCheck (i : Ins) : Int := bif firstR (rules1 i) != 0 then firstR (rules1 i) else match scan (bad2 i) i.ln 0 with
  | some k => firstR (rules2 i k)
  | none => 0
theorem msgCheck_nrm (i : Ins) : msgCheck i.nrm = msgCheck i := rfl

def tabCk : List (Nat × Entry) := [(77, e3I fun a b c => bv (wI a b c)), (23, eValid), (78, eIns fun i => bv i.isCol), (79, eIns fun i => bv i.isSec),
  (80, eIns fun i => bv i.isAst), (81, eBnd), (83, eIns fun i => iv i.maxLot), (82, e3I fun a b c => bv (wI a b c)), (76, eFirst),
  (84, eDup)]
theorem tabCk_ok : SpecOk Tryd.prog (table tabCk) := table_ok ⟨within_ok, eValid_ok, isCol_ok, isSec_ok, isAst_ok, eBnd_ok, maxLot_ok, within64_ok, eFirst_ok, eDup_ok, trivial⟩

def Ins.cells (i : Ins) : List RV := [vS i.ref, vI i.kind, vS i.sender, vS i.cp, vI i.side, vS i.asset, vI i.qty, vI i.amt, vI i.tday, vI i.sday, vI i.prio, vB i.part, vI i.lot, vB i.hold, vB i.rsv, .row 2 i.ln i.lf]
def mcSt (i : Ins) (k : Int) : St := ⟨225, [(1, .d (.ref i.cells)), (189, .d (.row 2 i.ln i.lf)), (190, iv i.ln), (191, iv k)], [], [], [], 0⟩
theorem firstR_zero : ∀ {l : List (Bool × Int)}, (∀ x ∈ l, x.2 ≠ 0) → firstR l = 0 → ∀ x ∈ l, x.1 = false
  | (b, e) :: l, he, h, x, hm => by
    simp only [firstR] at h
    cases hb : b with
    | true =>
      rw [hb] at h
      exact absurd h (he _ List.mem_cons_self)
    | false =>
      rw [hb] at h
      rcases List.mem_cons.1 hm with hm | hm
      · rw [hm]; exact hb
      · exact firstR_zero (fun y hy => he y (List.mem_cons_of_mem _ hy)) h x hm
theorem rules1_ne (i : Ins) : ∀ x ∈ rules1 i, x.2 ≠ 0 := by
  intro x hx
  simp only [rules1, List.mem_cons, List.not_mem_nil, or_false] at hx
  rcases hx with rfl | rfl | rfl | rfl | rfl | rfl | rfl | rfl | rfl | rfl | rfl | rfl | rfl | rfl | rfl | rfl | rfl | rfl | rfl | rfl <;> simp
theorem rules1_few {i : Ins} (h : firstR (rules1 i) = 0) : i.ln ≤ 8 := by
  have := firstR_zero (rules1_ne i) h (decide ((i.ln : Int) > 8), 8) (by simp [rules1])
  have := of_decide_eq_false this
  omega
def rules2' (j : Ins) (k : Nat) : List (Bool × Int) := [(!(wI (j.lt k) 0 1), 11), (!(validB 2 (j.lr k)), 6), ((j.lr k).toList == j.ref.toList, 26), (hasRef k (fun k' => lkR (j.nrm.lf (0 + k'))) (j.lr k), 7)]
theorem rules2_eq (j : Ins) (k : Nat) : rules2' j k = rules2 j k := by
  have e : (fun k' => lkR (j.nrm.lf (0 + k'))) = j.lr := by funext k'; rw [Nat.zero_add]; rfl
  unfold rules2' rules2
  rw [e]
def mcEnd : St := ⟨225, [], [], [], [], 0⟩
set_option maxRecDepth 100000 in
set_option maxHeartbeats 1000000 in
theorem check_nrm (j : Ins) : Pure Tryd.prog 46 [j.nrm.rv] (iv (msgCheck j)) := by
  refine pure_list (τ := tab) Tryd.f46 Tryd.func46 (by kernel_rfl) rfl (by kernel_rfl) ?_
  have key1 : (20 ≤ 1000) ∧ okRules 20 (rowR (rules1 j)) ∧
      ((firstS (fun k => rb (rowR (rules1 j) k)) (fun k => re (rowR (rules1 j) k)) 20 0 != 0) = true → Fin (iv (firstS (fun k => rb (rowR (rules1 j) k)) (fun k => re (rowR (rules1 j) k)) 20 0)) (iv (msgCheck j))) ∧
      ((firstS (fun k => rb (rowR (rules1 j) k)) (fun k => re (rowR (rules1 j) k)) 20 0 != 0) = false → ∃ _ : Unit, firstR (rules1 j) = 0 ∧ some (mcSt j.nrm 0) = some (mcSt j.nrm 0)) := by
    have e : firstS (fun k => rb (rowR (rules1 j) k)) (fun k => re (rowR (rules1 j) k)) 20 0 = firstR (rules1 j) := first_list (rules1 j)
    rw [e]
    exact ⟨by decide, rowR_ok (rules1 j), fun h => fin_of (by unfold msgCheck; rw [h]; rfl), fun h => ⟨(), bne_eq_false_iff_eq.1 h, rfl⟩⟩
  refine wpL_cut (τ := tab) (sp := table tabCk) mixed tabCk_ok 5 (.both .frzX (.keep [1, 189, 190, 191])) (fun _ : Unit => firstR (rules1 j) = 0) (fun _ => mcSt j.nrm 0) (Eq.mp (by kernel_rfl) key1) fun _ h1 => ?_
  have hfew := rules1_few h1
  have hmc : msgCheck j = match scan (bad2 j) j.ln 0 with
    | some k => firstR (rules2 j k)
    | none => 0 := by unfold msgCheck; rw [h1]; rfl
  refine wpL_loop (by kernel_rfl) (fun k : Nat => mcSt j.nrm k) (fun k => j.ln - k) (fun k => k ≤ j.ln ∧ scan (bad2 j) (j.ln - k) k = scan (bad2 j) j.ln 0) (.keep [1, 189, 190, 191]) (.keep []) (fun _ : Unit => msgCheck j = 0) (fun _ => mcEnd) 0 ⟨Nat.zero_le _, rfl⟩ (fun k hk => ?_) fun _ hy => ?_
  · obtain ⟨hk, hsc⟩ := hk
    have key : (decide ((k : Int) < (j.ln : Int)) = true → ((0 : Int) ≤ k ∧ (k : Int) < (j.ln : Int)) ∧ ((0 : Int) ≤ k ∧ (k : Int) ≤ (j.ln : Int)) ∧ (k ≤ 1000) ∧ okLinks k (fun k' => j.nrm.lf (0 + k')) ∧ (4 ≤ 1000) ∧ okRules 4 (rowR (rules2' j k)) ∧
          ((firstS (fun q => rb (rowR (rules2' j k) q)) (fun q => re (rowR (rules2' j k) q)) 4 0 != 0) = true → Fin (iv (firstS (fun q => rb (rowR (rules2' j k) q)) (fun q => re (rowR (rules2' j k) q)) 4 0)) (iv (msgCheck j))) ∧
          ((firstS (fun q => rb (rowR (rules2' j k) q)) (fun q => re (rowR (rules2' j k) q)) 4 0 != 0) = false → ∃ k' : Nat, j.ln - k' < j.ln - k ∧ (k' ≤ j.ln ∧ scan (bad2 j) (j.ln - k') k' = scan (bad2 j) j.ln 0) ∧ some (mcSt j.nrm (IntKind.i64.wrap ((k : Int) + 1))) = some (mcSt j.nrm k'))) ∧
        (decide ((k : Int) < (j.ln : Int)) = false → ∃ y : Unit, msgCheck j = 0 ∧ some mcEnd = some ((fun _ => mcEnd) y)) := by
      have e : firstS (fun q => rb (rowR (rules2' j k) q)) (fun q => re (rowR (rules2' j k) q)) 4 0 = firstR (rules2' j k) := first_list (rules2' j k)
      have hok := rowR_ok (rules2' j k)
      rw [e, rules2_eq]
      rw [rules2_eq] at hok
      refine ⟨fun h => ?_, fun h => ?_⟩
      · have hlt : k < j.ln := by have := of_decide_eq_true h; omega
        obtain ⟨m, hm⟩ : ∃ m, j.ln - k = m + 1 := ⟨j.ln - k - 1, by omega⟩
        rw [hm, scan] at hsc
        refine ⟨⟨by omega, by omega⟩, ⟨by omega, by omega⟩, by omega, fun q _ => rfl, by decide, hok, fun hb => fin_of ?_, fun hb => ⟨k + 1, by omega, ⟨by omega, ?_⟩, by rw [i64_succ k (by omega)]⟩⟩
        · have hb' : bad2 j k = true := hb
          rw [hb'] at hsc
          rw [hmc, ← hsc]; rfl
        · have hb' : bad2 j k = false := hb
          rw [hb'] at hsc
          rw [← hsc, show j.ln - (k + 1) = m by omega]; rfl
      · have hge : k = j.ln := by have := of_decide_eq_false h; omega
        refine ⟨(), ?_, rfl⟩
        rw [hge, Nat.sub_self] at hsc
        rw [hmc, ← hsc]; rfl
    exact vcL_end (τ := tab) (sp := table tabCk) mixed tabCk_ok _ _ _ (Eq.mp (by kernel_rfl) key)
  · exact vcL_end (τ := tab) (sp := table tabCk) mixed tabCk_ok _ _ _ (Eq.mp (by kernel_rfl) (fin_of (y := iv 0) (x := iv (msgCheck j)) (by rw [hy])))

/-- An instruction with links, as itself. -/
theorem nrm_den {i : Ins} (h : i.wf) {N : Nat → Prop} {w : World} {v : Value} (hd : RDen N w i.rv v) : RDen N w i.nrm.rv v := by
  cases hd with
  | agg _ vs hl hd =>
    have h0 : Cells N w ([vS i.ref, vI i.kind, vS i.sender, vS i.cp, vI i.side, vS i.asset, vI i.qty, vI i.amt, vI i.tday, vI i.sday, vI i.prio, vB i.part, vI i.lot, vB i.hold, vB i.rsv] ++ [.row 2 i.ln i.lf]) vs := ⟨hl, hd⟩
    exact (cells_last h0 fun v hv => RDen.row_le hv h).agg
def eIn1 (f : Ins → SV) : Entry := fun args => match args with
  | [x] => ob (insOf x) fun i => some ([i.wf], f i)
  | _ => none
theorem eIn1_ok {g : FuncId} {f : Ins → SV} (hg : Sim.Enters Tryd.prog g) (h : ∀ i : Ins, Pure Tryd.prog g [i.nrm.rv] (f i)) : EntryOk Tryd.prog g (eIn1 f) := by
  refine ⟨hg, fun args ps x hx hp => ?_⟩
  unfold eIn1 at hx
  split at hx
  · obtain ⟨i, e, hx⟩ := ob_eq hx
    simp only [Option.some.injEq, Prod.mk.injEq] at hx
    obtain ⟨rfl, rfl⟩ := hx
    exact pure_args (h i) fun N w vs hc => cells_one (fun v hv => nrm_den (hp _ (by simp)) (insOf_den e hv)) hc
  · cases hx
theorem check_ok : EntryOk Tryd.prog 46 (eIn1 fun i => iv (msgCheck i)) := eIn1_ok (enters Tryd.f46 Tryd.func46 (by kernel_rfl)) check_nrm
end Go.Proofs.YtekifbnnkcgipaaDoor
