/- Contract of giro/ident's Check: it returns what the reference returns. Conditions: at most 1000 bytes. -/
import Derived.Test.YtekifbnnkcgipaaDoorIdE
namespace Go.Proofs.YtekifbnnkcgipaaDoor
open Go.Sim

theorem RDen.row_le {N : Nat → Prop} {w : World} {sz n : Nat} {f f' : Nat → RV} {v : Value} (h : RDen N w (.row sz n f) v) (hf : ∀ k, k < n → f k = f' k) : RDen N w (.row sz n f') v := by
  cases h with
  | nil => exact .nil _ _
  | row _ _ _ b o cap c hcap hb hN hsz hc ho hd =>
    exact .row sz n f' b o cap c hcap hb hN (fun k hk => by rw [← hf k hk]; exact hsz k hk) hc ho (fun k j x hk hx => hd k j x hk (by rw [hf k hk]; exact hx))
theorem RDen.agg_le {N : Nat → Prop} {w : World} {l l' : List RV} {v : Value} (h : RDen N w (.agg l) v) (hl : l.length = l'.length) (hd : ∀ (j : Nat) x x' u, l[j]? = some x → l'[j]? = some x' → RDen N w x u → RDen N w x' u) : RDen N w (.agg l') v := by
  cases h with
  | agg _ vs hlen h =>
    refine .agg l' vs (by omega) fun j x u hx hu => ?_
    have hj : j < l.length := by rw [hl]; exact (List.getElem?_eq_some_iff.1 hx).1
    exact hd j _ x u (List.getElem?_eq_getElem hj) hx (h j _ u (List.getElem?_eq_getElem hj) hu)
theorem Pure.of_args {P : Program} {g : FuncId} {args args' : List RV} {x : SV} (h : Pure P g args x) (hle : ∀ N w vs, Cells N w args' vs → Cells N w args vs) : Pure P g args' x := fun N w vs hN hc => h N w vs hN (hle N w vs hc)

/-- The classes of the kind with this least length. -/
def spansBy (a : Int) : List (Nat × FuncId) := bif a == 12 then spans0 else bif a == 4 then spans1 else bif a == 1 then spans2 else spans3
theorem spansBy_len (a : Int) : (spansBy a).length ≤ 100 ∧ (flatS (spansBy a)).length ≤ 100000 := by
  unfold spansBy
  cases a == 12 <;> cases a == 4 <;> cases a == 1 <;> exact ⟨by decide, by decide⟩
theorem map_span (sp : List (Nat × FuncId)) (k : Nat) (h : k < sp.length) : (sp.map spanRV).getD k default = spanRV (sp.getD k (0, 0)) := by
  simp [List.getD_eq_getElem?_getD, List.getElem?_eq_getElem h]

def eClasses : Entry := fun args => match args with
  | [.agg [.val (.int .i64 a), .row 2 n f, .val (.int .i64 _), .val c]] => some ([n = (spansBy a).length, ∀ k, k < (spansBy a).length → f k = spanRV ((spansBy a).getD k (0, 0)), c = .nilFunc ∨ ∃ g, c = .func (.func g) #[] #[]],
      .d (.row 1 (flatS (spansBy a)).length (clRow (flatS (spansBy a)))))
  | _ => none
theorem eClasses_ok : EntryOk Tryd.prog 59 eClasses := by
  refine ⟨enters Tryd.f59 Tryd.func59 (by kernel_rfl), fun args ps x h hp => ?_⟩
  unfold eClasses at h
  split at h
  · rename_i a n f b c
    simp only [Option.some.injEq, Prod.mk.injEq] at h
    obtain ⟨rfl, rfl⟩ := h
    have hn : n = (spansBy a).length := hp _ (by simp)
    have hf : ∀ k, k < (spansBy a).length → f k = spanRV ((spansBy a).getD k (0, 0)) := hp _ (by simp)
    have hc : c = .nilFunc ∨ ∃ g, c = .func (.func g) #[] #[] := hp _ (by simp)
    subst hn
    refine Pure.of_args (classes_pure (spansBy a) (spansBy_len a).1 (spansBy_len a).2 a b c hc) fun N w vs hcs => ⟨hcs.1, fun j x v hx hv => ?_⟩
    match j, hx with
    | 0, hx =>
      simp only [List.getElem?_cons_zero, Option.some.injEq] at hx
      subst hx
      refine RDen.agg_le (hcs.2 0 _ v rfl hv) rfl fun i y y' u hy hy' hu => ?_
      match i, hy, hy' with
      | 0, hy, hy' => cases hy; cases hy'; exact hu
      | 1, hy, hy' =>
        simp only [List.getElem?_cons_succ, List.getElem?_cons_zero, Option.some.injEq] at hy hy'
        subst hy; subst hy'
        exact RDen.row_le hu hf
      | 2, hy, hy' => cases hy; cases hy'; exact hu
      | 3, hy, hy' => cases hy; cases hy'; exact hu
  · cases h

/-- The function that a value of a function's type names. -/
def fnOf : RV → FuncId
  | .val (.func (.func g) _ _) => g
  | _ => 0
def ePrefix : Entry := fun args => match args with
  | [.row 1 n f, .val (.int .i64 a), .val (.string s)] => some ([n ≤ 1000, ∀ k, f k = clsRV (fnOf (f k)), ∀ k, k < n → isCls (fnOf (f k))],
      .tup [.d (.val (.int .i64 (prefOut n (fun k => fnOf (f k)) a s).1)), .d (.val (.int .i64 (prefOut n (fun k => fnOf (f k)) a s).2))])
  | _ => none
theorem ePrefix_ok : EntryOk Tryd.prog 58 ePrefix := by
  refine ⟨enters Tryd.f58 Tryd.func58 (by kernel_rfl), fun args ps x h hp => ?_⟩
  unfold ePrefix at h
  split at h
  · rename_i n f a s
    simp only [Option.some.injEq, Prod.mk.injEq] at h
    obtain ⟨rfl, rfl⟩ := h
    have h1 : n ≤ 1000 := hp _ (by simp)
    have h2 : ∀ k, f k = clsRV (fnOf (f k)) := hp _ (by simp)
    have h3 : ∀ k, k < n → isCls (fnOf (f k)) := hp _ (by simp)
    have := prefix_pure n h1 (fun k => fnOf (f k)) h3 a s
    rwa [show (fun k => clsRV (fnOf (f k))) = f from (funext h2).symm] at this
  · cases h
def eKinds : Entry := fun args => match args with
  | [] => some ([], .d kindsV)
  | _ => none
theorem eKinds_ok : EntryOk Tryd.prog 57 eKinds := by
  refine ⟨enters Tryd.f57 Tryd.func57 (by kernel_rfl), fun args ps x h hp => ?_⟩
  unfold eKinds at h
  split at h
  · simp only [Option.some.injEq, Prod.mk.injEq] at h
    obtain ⟨rfl, rfl⟩ := h
    exact kinds_pure
  · cases h
def eLuhn : Entry := fun args => match args with
  | [.val (.string s)] => some ([s.size ≤ 1000, alnum s s.size], .d (.val (.string (itoaStr (luhnD (exps s s.size))))))
  | _ => none
theorem eLuhn_ok : EntryOk Tryd.prog 95 eLuhn := by
  refine ⟨enters Tryd.f95 Tryd.func95 (by kernel_rfl), fun args ps x h hp => ?_⟩
  unfold eLuhn at h
  split at h
  · simp only [Option.some.injEq, Prod.mk.injEq] at h
    obtain ⟨rfl, rfl⟩ := h
    exact luhn_pure _ (hp _ (by simp)) (hp _ (by simp))
  · cases h
def eMod97 : Entry := fun args => match args with
  | [.val (.string s)] => some ([s.size ≤ 1000, alnum s s.size], .d (.val (.string (pairStr (98 - m97 (exps s s.size ++ [0, 0]))))))
  | _ => none
theorem eMod97_ok : EntryOk Tryd.prog 97 eMod97 := by
  refine ⟨enters Tryd.f97 Tryd.func97 (by kernel_rfl), fun args ps x h hp => ?_⟩
  unfold eMod97 at h
  split at h
  · rename_i s
    simp only [Option.some.injEq, Prod.mk.injEq] at h
    obtain ⟨rfl, rfl⟩ := h
    have h1 : s.size ≤ 1000 := hp _ (by simp)
    have h2 : alnum s s.size := hp _ (by simp)
    intro N w vs hN hc
    obtain ⟨v, rfl⟩ : ∃ v, vs = [v] := by
      have := hc.1
      match vs, this with
      | [v], _ => exact ⟨v, rfl⟩
    have hv := hc.2 0 _ _ rfl rfl
    cases hv
    refine (mod97_walk s w h1 h2).mono ?_
    rintro e w' ⟨rfl, hb⟩
    exact ⟨_, rfl, fun β => .d (.val _), hb⟩
  · cases h
def tabF : List (Nat × Entry) := [(59, eClasses), (58, ePrefix), (57, eKinds), (95, eLuhn), (97, eMod97)]
theorem tabF_ok : SpecOk Tryd.prog (table tabF) := table_ok ⟨eClasses_ok, ePrefix_ok, eKinds_ok, eLuhn_ok, eMod97_ok, trivial⟩

/-- The part of Check ahead of the check digits. -/
def frontOut (κ : Int) (n : Nat) (lo : Int) (s : ByteArray) : Int × Int :=
  match scan (rbad κ s) (min s.size n) 0 with
  | some k => (k, 3)
  | none => bif decide ((s.size : Int) < lo) then (s.size, 4) else bif decide ((s.size : Int) > n) then (n, 5) else (0, 0)
theorem prefOut_eq (κ : Int) (n : Nat) (g : Nat → FuncId) (lo : Int) (s : ByteArray) (hg : ∀ k, k < n → flC (g k) = flM κ k) : prefOut n g lo s = frontOut κ n lo s := by
  have e : scan (badAt g s) n 0 = scan (rbad κ s) (min s.size n) 0 := by
    rw [scan_cut (n := s.size) (fun j hj => by unfold badAt; rw [decide_eq_false (by omega)]; rfl) n 0, show min n (s.size - 0) = min s.size n by omega]
    refine scan_congr fun j _ hj => ?_
    unfold badAt rbad
    rw [decide_eq_true (by omega), clsB_fl, hg j (by omega), mayB_fl]
    rfl
  unfold prefOut frontOut
  rw [e]
  cases scan (rbad κ s) (min s.size n) 0 <;> rfl
theorem checkOut_front (κ : Int) (hκ : (decide (κ < 0) || decide (κ > 3)) = false) (s : ByteArray) : checkOut κ s = bif (frontOut κ (hiK κ) (loK κ) s).2 != 0 then frontOut κ (hiK κ) (loK κ) s else bif badL κ s then (11, 18) else bif badM κ s then (18, 18) else (0, 0) := by
  unfold checkOut frontOut
  rw [hκ]
  cases scan (rbad κ s) (min s.size (hiK κ)) 0 with
  | some k => rfl
  | none =>
    cases decide ((s.size : Int) < (loK κ : Int)) <;> cases decide ((s.size : Int) > (hiK κ : Int)) <;> rfl
/-- Behind the first part all characters are of their classes, and the length is a length of the kind. -/
theorem front_ok {κ : Int} {n : Nat} {lo : Int} {s : ByteArray} (h : (frontOut κ n lo s).2 = 0) : lo ≤ s.size ∧ s.size ≤ n ∧ ∀ k, k < s.size → mayB κ k (byteAt s k) = true := by
  unfold frontOut at h
  split at h
  · cases h
  · rename_i hs
    have h4 : ¬ (s.size : Int) < lo := fun hc => by simp [hc] at h
    have h5 : ¬ (s.size : Int) > n := fun hc => by
      rw [decide_eq_false h4, decide_eq_true hc] at h
      cases h
    refine ⟨by omega, by omega, fun k hk => ?_⟩
    have := scan_none hs k (Nat.zero_le k) (by omega)
    simpa [rbad] using this

/-- The test of check digits as the code makes it. -/
def luStr (s : ByteArray) : ByteArray := itoaStr (luhnD (exps (s.extract 0 11) (s.extract 0 11).size))
def moStr (s : ByteArray) : ByteArray := pairStr (98 - m97 (exps (s.extract 0 18) (s.extract 0 18).size ++ [0, 0]))
theorem byteAt_inj {a b : ByteArray} {k : Nat} (ha : k < a.size) (hb : k < b.size) (h : byteAt a k = byteAt b k) : a.data[k]? = b.data[k]? := by
  have ha' : k < a.data.size := ha
  have hb' : k < b.data.size := hb
  unfold byteAt at h
  rw [Array.getD_eq_getD_getElem?, Array.getD_eq_getD_getElem?, Array.getElem?_eq_getElem ha', Array.getElem?_eq_getElem hb'] at h
  rw [Array.getElem?_eq_getElem ha', Array.getElem?_eq_getElem hb']
  simp only [Option.getD_some, Int.natCast_inj] at h
  rw [UInt8.toNat_inj.1 h]
theorem bytes_ext {a b : ByteArray} (hs : a.size = b.size) (h : ∀ k, k < a.size → byteAt a k = byteAt b k) : a = b := by
  apply ByteArray.ext
  apply Array.ext_getElem?
  intro k
  rcases Nat.lt_or_ge k a.size with hk | hk
  · exact byteAt_inj hk (by omega) (h k hk)
  · have hk2 : b.size ≤ k := by omega
    rw [Array.getElem?_eq_none (show a.data.size ≤ k from hk), Array.getElem?_eq_none (show b.data.size ≤ k from hk2)]
theorem toList_inj' {a b : ByteArray} (h : a.toList = b.toList) : a = b := by
  rw [ByteArray.toList_eq, ByteArray.toList_eq] at h
  exact ByteArray.ext (Array.toList_inj.1 h)
theorem toList_beq (a b : ByteArray) : (a.toList == b.toList) = decide (a = b) := by
  by_cases h : a = b
  · subst h; simp
  · rw [decide_eq_false h]
    exact beq_eq_false_iff_ne.2 fun e => h (toList_inj' e)
theorem toList_digit (s : ByteArray) (d : Nat) (h : s.size = 12) (hd : d < 10) : ((itoaStr d).toList == (s.extract 11 s.size).toList) = (byteAt s 11 == 48 + ((d : Nat) : Int)) := by
  have h1 : (s.extract 11 s.size).size = 1 := by rw [size_extract]; omega
  have h2 : byteAt (s.extract 11 s.size) 0 = byteAt s 11 := byteAt_extract (Nat.le_refl _) (by omega)
  have h3 : byteAt (digStr [d]) 0 = 48 + ((d : Nat) : Int) := digStr_at (by simpa using hd) (by simp)
  rw [itoa_small hd, toList_beq]
  by_cases he : byteAt s 11 = 48 + ((d : Nat) : Int)
  · have : digStr [d] = s.extract 11 s.size := bytes_ext (by rw [h1]; rfl) fun k hk => by
      have : k = 0 := by have h4 : (digStr [d]).size = 1 := rfl; omega
      rw [this, h2, h3, he]
    rw [decide_eq_true this, beq_iff_eq.2 he]
  · have : ¬ digStr [d] = s.extract 11 s.size := fun e => he (by rw [← h2, ← e, h3])
    rw [decide_eq_false this, beq_eq_false_iff_ne.2 he]
instance (h : FuncId) : Decidable (isCls h) := by unfold isCls; infer_instance
theorem len_le (a : Int) : (flatS (spansBy a)).length ≤ 1000 := by
  unfold spansBy
  cases a == 12 <;> cases a == 4 <;> cases a == 1 <;> decide
theorem cls_all (a : Int) : ∀ k, k < (flatS (spansBy a)).length → isCls (fnOf (clRow (flatS (spansBy a)) k)) := by
  unfold spansBy
  cases a == 12 <;> cases a == 4 <;> cases a == 1 <;> decide
theorem front0 {s : ByteArray} (h : (frontOut 0 12 12 s).2 = 0) : s.size = 12 ∧ alnum s 11 := by
  obtain ⟨f1, f2, f3⟩ := front_ok h
  exact ⟨by omega, fun k hk => may_alnum (.inl rfl) (f3 k (by omega))⟩
set_option maxRecDepth 100000 in
theorem check0_pure (s : ByteArray) : Pure Tryd.prog 20 [.val (.int .i64 0), .val (.string s)] (.tup [.d (.val (.int .i64 (checkOut 0 s).1)), .d (.val (.int .i64 (checkOut 0 s).2))]) := by
  refine pure_fn (τ := tab) mixed tabF_ok Tryd.f20 Tryd.func20 (by kernel_rfl) rfl (by kernel_rfl) ?_
  have hpo := prefOut_eq 0 12 (fun k => fnOf (clRow (flatS (spansBy 12)) k)) 12 s (by decide)
  have hco : checkOut 0 s = bif (frontOut 0 12 12 s).2 != 0 then frontOut 0 12 12 s else bif badL 0 s then (11, 18) else bif badM 0 s then (18, 18) else (0, 0) := checkOut_front 0 (by decide) s
  rw [← hpo] at hco
  refine ⟨fun h => absurd h (by decide), fun _ => ⟨⟨by decide, by decide⟩, rfl, fun k hk => map_span spans0 k hk, .inr ⟨_, rfl⟩, len_le 12, fun k => rfl, cls_all 12, fun h => ?_, fun h => ?_⟩⟩
  · have h : ((prefOut 12 (fun k => fnOf (clRow (flatS (spansBy 12)) k)) 12 s).2 != 0) = true := Eq.mp (by kernel_rfl) h
    exact ends_ret (y := .tup [.d (.val (.int .i64 (prefOut 12 (fun k => fnOf (clRow (flatS (spansBy 12)) k)) 12 s).1)), .d (.val (.int .i64 (prefOut 12 (fun k => fnOf (clRow (flatS (spansBy 12)) k)) 12 s).2))]) (by rw [hco, h]; rfl) (by kernel_rfl)
  · have h : ((prefOut 12 (fun k => fnOf (clRow (flatS (spansBy 12)) k)) 12 s).2 != 0) = false := Eq.mp (by kernel_rfl) h
    have h0 : (frontOut 0 12 12 s).2 = 0 := by rw [← hpo]; exact bne_eq_false_iff_eq.1 h
    have hco : checkOut 0 s = bif badL 0 s then (11, 18) else bif badM 0 s then (18, 18) else (0, 0) := by rw [hco, h]; rfl
    have hsz : s.size = 12 := (front0 h0).1
    have hal : alnum s 11 := (front0 h0).2
    clear hpo h h0
    have hlu := luhnD_lt (exps s 11)
    have e1 : luStr s = itoaStr (luhnD (exps s 11)) := by unfold luStr; rw [exps_extract (by omega)]
    have e2 : ((luStr s).toList == (s.extract 11 s.size).toList) = (byteAt s 11 == 48 + ((luhnD (exps s 11) : Nat) : Int)) := by rw [e1]; exact toList_digit s _ hsz hlu
    have e3 : badM 0 s = false := by unfold badM; rw [show ((0 : Int) == 3) = false from rfl, Bool.false_and]
    have q1 : (0 : Int) ≤ 11 ∧ (11 : Int) ≤ (s.size : Int) := ⟨by omega, by omega⟩
    have q2 : (s.extract 0 11).size ≤ 1000 := by rw [size_extract]; omega
    have q3 : alnum (s.extract 0 11) (s.extract 0 11).size := alnum_extract (by omega) hal
    refine ⟨fun _ => q1, fun _ => q2, fun _ => q3, fun _ => q1, fun hb => ?_, fun hb => ?_⟩
    · have hb' : badL 0 s = true := by
        have hb : (true && !((luStr s).toList == (s.extract 11 s.size).toList)) = true := Eq.mp (by kernel_rfl) hb
        rw [e2] at hb
        exact hb
      exact ends_ret (y := .tup [.d (.val (.int .i64 11)), .d (.val (.int .i64 18))]) (by rw [hco, hb']; rfl) (by kernel_rfl)
    · have hb' : badL 0 s = false := by
        have hb : (true && !((luStr s).toList == (s.extract 11 s.size).toList)) = false := Eq.mp (by kernel_rfl) hb
        rw [e2] at hb
        exact hb
      exact ends_ret (y := .tup [.d (.val (.int .i64 0)), .d (.val (.int .i64 0))]) (by rw [hco, hb', e3]; rfl) (by kernel_rfl)

set_option maxRecDepth 100000 in
theorem check1_pure (s : ByteArray) : Pure Tryd.prog 20 [.val (.int .i64 1), .val (.string s)] (.tup [.d (.val (.int .i64 (checkOut 1 s).1)), .d (.val (.int .i64 (checkOut 1 s).2))]) := by
  refine pure_fn (τ := tab) mixed tabF_ok Tryd.f20 Tryd.func20 (by kernel_rfl) rfl (by kernel_rfl) ?_
  have hpo := prefOut_eq 1 8 (fun k => fnOf (clRow (flatS (spansBy 4)) k)) 4 s (by decide)
  have hco : checkOut 1 s = bif (frontOut 1 8 4 s).2 != 0 then frontOut 1 8 4 s else bif badL 1 s then (11, 18) else bif badM 1 s then (18, 18) else (0, 0) := checkOut_front 1 (by decide) s
  rw [← hpo] at hco
  refine ⟨fun h => absurd h (by decide), fun _ => ⟨⟨by decide, by decide⟩, rfl, fun k hk => map_span spans1 k hk, .inl rfl, len_le 4, fun k => rfl, cls_all 4, fun h => ?_, fun h => ?_⟩⟩
  · have h : ((prefOut 8 (fun k => fnOf (clRow (flatS (spansBy 4)) k)) 4 s).2 != 0) = true := Eq.mp (by kernel_rfl) h
    exact ends_ret (y := .tup [.d (.val (.int .i64 (prefOut 8 (fun k => fnOf (clRow (flatS (spansBy 4)) k)) 4 s).1)), .d (.val (.int .i64 (prefOut 8 (fun k => fnOf (clRow (flatS (spansBy 4)) k)) 4 s).2))]) (by rw [hco, h]; rfl) (by kernel_rfl)
  · have h : ((prefOut 8 (fun k => fnOf (clRow (flatS (spansBy 4)) k)) 4 s).2 != 0) = false := Eq.mp (by kernel_rfl) h
    have hco : checkOut 1 s = bif badL 1 s then (11, 18) else bif badM 1 s then (18, 18) else (0, 0) := by rw [hco, h]; rfl
    have e1 : badL 1 s = false := by unfold badL; rw [show ((1 : Int) == 0) = false from rfl, Bool.false_and]
    have e3 : badM 1 s = false := by unfold badM; rw [show ((1 : Int) == 3) = false from rfl, Bool.false_and]
    clear hpo h
    refine ⟨fun h => (by cases h), fun h => (by cases h), fun h => (by cases h), fun h => (by cases h), fun h => absurd h (by decide), fun _ => ?_⟩
    exact ends_ret (y := .tup [.d (.val (.int .i64 0)), .d (.val (.int .i64 0))]) (by rw [hco, e1, e3]; rfl) (by kernel_rfl)

set_option maxRecDepth 100000 in
theorem check2_pure (s : ByteArray) : Pure Tryd.prog 20 [.val (.int .i64 2), .val (.string s)] (.tup [.d (.val (.int .i64 (checkOut 2 s).1)), .d (.val (.int .i64 (checkOut 2 s).2))]) := by
  refine pure_fn (τ := tab) mixed tabF_ok Tryd.f20 Tryd.func20 (by kernel_rfl) rfl (by kernel_rfl) ?_
  have hpo := prefOut_eq 2 16 (fun k => fnOf (clRow (flatS (spansBy 1)) k)) 1 s (by decide)
  have hco : checkOut 2 s = bif (frontOut 2 16 1 s).2 != 0 then frontOut 2 16 1 s else bif badL 2 s then (11, 18) else bif badM 2 s then (18, 18) else (0, 0) := checkOut_front 2 (by decide) s
  rw [← hpo] at hco
  refine ⟨fun h => absurd h (by decide), fun _ => ⟨⟨by decide, by decide⟩, rfl, fun k hk => map_span spans2 k hk, .inl rfl, len_le 1, fun k => rfl, cls_all 1, fun h => ?_, fun h => ?_⟩⟩
  · have h : ((prefOut 16 (fun k => fnOf (clRow (flatS (spansBy 1)) k)) 1 s).2 != 0) = true := Eq.mp (by kernel_rfl) h
    exact ends_ret (y := .tup [.d (.val (.int .i64 (prefOut 16 (fun k => fnOf (clRow (flatS (spansBy 1)) k)) 1 s).1)), .d (.val (.int .i64 (prefOut 16 (fun k => fnOf (clRow (flatS (spansBy 1)) k)) 1 s).2))]) (by rw [hco, h]; rfl) (by kernel_rfl)
  · have h : ((prefOut 16 (fun k => fnOf (clRow (flatS (spansBy 1)) k)) 1 s).2 != 0) = false := Eq.mp (by kernel_rfl) h
    have hco : checkOut 2 s = bif badL 2 s then (11, 18) else bif badM 2 s then (18, 18) else (0, 0) := by rw [hco, h]; rfl
    have e1 : badL 2 s = false := by unfold badL; rw [show ((2 : Int) == 0) = false from rfl, Bool.false_and]
    have e3 : badM 2 s = false := by unfold badM; rw [show ((2 : Int) == 3) = false from rfl, Bool.false_and]
    clear hpo h
    refine ⟨fun h => (by cases h), fun h => (by cases h), fun h => (by cases h), fun h => (by cases h), fun h => absurd h (by decide), fun _ => ?_⟩
    exact ends_ret (y := .tup [.d (.val (.int .i64 0)), .d (.val (.int .i64 0))]) (by rw [hco, e1, e3]; rfl) (by kernel_rfl)

theorem front3 {s : ByteArray} (h : (frontOut 3 20 20 s).2 = 0) : s.size = 20 ∧ alnum s 18 := by
  obtain ⟨f1, f2, f3⟩ := front_ok h
  exact ⟨by omega, fun k hk => may_alnum (.inr rfl) (f3 k (by omega))⟩
theorem beq_comm' (a b : ByteArray) : (a.toList == b.toList) = (b.toList == a.toList) := by
  rw [toList_beq, toList_beq]
  by_cases h : a = b
  · rw [decide_eq_true h, decide_eq_true h.symm]
  · rw [decide_eq_false h, decide_eq_false (fun e => h e.symm)]
set_option maxRecDepth 100000 in
theorem check3_pure (s : ByteArray) : Pure Tryd.prog 20 [.val (.int .i64 3), .val (.string s)] (.tup [.d (.val (.int .i64 (checkOut 3 s).1)), .d (.val (.int .i64 (checkOut 3 s).2))]) := by
  refine pure_fn (τ := tab) mixed tabF_ok Tryd.f20 Tryd.func20 (by kernel_rfl) rfl (by kernel_rfl) ?_
  have hpo := prefOut_eq 3 20 (fun k => fnOf (clRow (flatS (spansBy 20)) k)) 20 s (by decide)
  have hco : checkOut 3 s = bif (frontOut 3 20 20 s).2 != 0 then frontOut 3 20 20 s else bif badL 3 s then (11, 18) else bif badM 3 s then (18, 18) else (0, 0) := checkOut_front 3 (by decide) s
  rw [← hpo] at hco
  refine ⟨fun h => absurd h (by decide), fun _ => ⟨⟨by decide, by decide⟩, rfl, fun k hk => map_span spans3 k hk, .inr ⟨_, rfl⟩, len_le 20, fun k => rfl, cls_all 20, fun h => ?_, fun h => ?_⟩⟩
  · have h : ((prefOut 20 (fun k => fnOf (clRow (flatS (spansBy 20)) k)) 20 s).2 != 0) = true := Eq.mp (by kernel_rfl) h
    exact ends_ret (y := .tup [.d (.val (.int .i64 (prefOut 20 (fun k => fnOf (clRow (flatS (spansBy 20)) k)) 20 s).1)), .d (.val (.int .i64 (prefOut 20 (fun k => fnOf (clRow (flatS (spansBy 20)) k)) 20 s).2))]) (by rw [hco, h]; rfl) (by kernel_rfl)
  · have h : ((prefOut 20 (fun k => fnOf (clRow (flatS (spansBy 20)) k)) 20 s).2 != 0) = false := Eq.mp (by kernel_rfl) h
    have h0 : (frontOut 3 20 20 s).2 = 0 := by rw [← hpo]; exact bne_eq_false_iff_eq.1 h
    have hco : checkOut 3 s = bif badL 3 s then (11, 18) else bif badM 3 s then (18, 18) else (0, 0) := by rw [hco, h]; rfl
    have hsz : s.size = 20 := (front3 h0).1
    have hal : alnum s 18 := (front3 h0).2
    clear hpo h h0
    have e1 : moStr s = pairStr (98 - m97 (exps s 18 ++ [0, 0])) := by unfold moStr; rw [exps_extract (by omega)]
    have e2 : (true && !((moStr s).toList == (s.extract 18 s.size).toList)) = badM 3 s := by unfold badM; rw [e1, beq_comm', show ((3 : Int) == 3) = true from rfl]
    have e3 : badL 3 s = false := by unfold badL; rw [show ((3 : Int) == 0) = false from rfl, Bool.false_and]
    have q1 : (0 : Int) ≤ 18 ∧ (18 : Int) ≤ (s.size : Int) := ⟨by omega, by omega⟩
    have q2 : (s.extract 0 18).size ≤ 1000 := by rw [size_extract]; omega
    have q3 : alnum (s.extract 0 18) (s.extract 0 18).size := alnum_extract (by omega) hal
    refine ⟨fun _ => q1, fun _ => q2, fun _ => q3, fun _ => q1, fun hb => ?_, fun hb => ?_⟩
    · have hb' : badM 3 s = true := e2 ▸ (Eq.mp (by kernel_rfl) hb : (true && !((moStr s).toList == (s.extract 18 s.size).toList)) = true)
      exact ends_ret (y := .tup [.d (.val (.int .i64 18)), .d (.val (.int .i64 18))]) (by rw [hco, e3, hb']; rfl) (by kernel_rfl)
    · have hb' : badM 3 s = false := e2 ▸ (Eq.mp (by kernel_rfl) hb : (true && !((moStr s).toList == (s.extract 18 s.size).toList)) = false)
      exact ends_ret (y := .tup [.d (.val (.int .i64 0)), .d (.val (.int .i64 0))]) (by rw [hco, e3, hb']; rfl) (by kernel_rfl)

set_option maxRecDepth 100000 in
theorem checkX_pure (κ : Int) (hκ : (decide (κ < 0) || decide (κ ≥ 4)) = true) (s : ByteArray) : Pure Tryd.prog 20 [.val (.int .i64 κ), .val (.string s)] (.tup [.d (.val (.int .i64 (checkOut κ s).1)), .d (.val (.int .i64 (checkOut κ s).2))]) := by
  refine pure_fn (τ := tab) mixed tabF_ok Tryd.f20 Tryd.func20 (by kernel_rfl) rfl (by kernel_rfl) ?_
  have e : checkOut κ s = (0, 11) := by
    unfold checkOut
    have : (decide (κ < 0) || decide (κ > 3)) = true := by
      simp only [Bool.or_eq_true, decide_eq_true_eq] at hκ ⊢; omega
    rw [this]; rfl
  refine ⟨fun h => ?_, fun h => ?_⟩
  · exact ends_ret (y := .tup [.d (.val (.int .i64 0)), .d (.val (.int .i64 11))]) (by rw [e]) (by kernel_rfl)
  · exact absurd ((Eq.mp (by kernel_rfl) h : (decide (κ < 0) || decide (κ ≥ 4)) = false)) (by rw [hκ]; exact Bool.noConfusion)
theorem check_pure (κ : Int) (s : ByteArray) : Pure Tryd.prog 20 [.val (.int .i64 κ), .val (.string s)] (.tup [.d (.val (.int .i64 (checkOut κ s).1)), .d (.val (.int .i64 (checkOut κ s).2))]) := by
  by_cases h : (decide (κ < 0) || decide (κ ≥ 4)) = true
  · exact checkX_pure κ h s
  · have h' : κ = 0 ∨ κ = 1 ∨ κ = 2 ∨ κ = 3 := by
      simp only [Bool.or_eq_true, decide_eq_true_eq] at h; omega
    rcases h' with rfl | rfl | rfl | rfl
    · exact check0_pure s
    · exact check1_pure s
    · exact check2_pure s
    · exact check3_pure s
end Go.Proofs.YtekifbnnkcgipaaDoor
