/- A region whose order Go leaves open, with stores, appends and new blocks: whatever order comes up, what is in memory and in the slots behind it is what the text's order says. Conditions: none. Regions whose order Go leaves open, with effects: the checks, and that they suffice. Conditions: none. Regions whose order Go leaves open, with effects: the proof. Conditions: none. Regions whose order Go leaves open, with effects: what holds while operations come up. Conditions: none. Regions whose order Go leaves open, with effects: each operation that comes up, and the end. Conditions: none. Regions whose order Go leaves open, with effects: new blocks, stores, appends; the whole region. Conditions: none. Regions whose order Go leaves open, with effects: the whole region. Conditions: none. -/
import Derived.Test.YtekifbnnkcgipaaDoorSimK
namespace Go.Sim
open Go.RowKit (Below)

structure Mem where
  bx : List (Nat × TypeId × List SV)
  ow : List (Nat × Own)
  nx : Nat
/-- What one operation does, in the text's order. -/
structure Rec where
  ps : List Prop
  ent : Option (Nat × SV)
  tgt : Option (Option Nat)
  ld : Option Nat
  al : Option Nat
  post : Mem

def anyEdge (f : Nat → Bool) : List Edge → Bool
  | [] => false
  | e :: l => (Region.binds .any e && f e.on) || anyEdge f l
theorem anyEdge_ok {f : Nat → Bool} : ∀ {l : List Edge}, anyEdge f l = true → ∃ e ∈ l, Region.binds .any e = true ∧ f e.on = true
  | e :: l, h => by
    simp only [anyEdge, Bool.or_eq_true, Bool.and_eq_true] at h
    rcases h with ⟨h1, h2⟩ | h
    · exact ⟨e, List.mem_cons_self, h1, h2⟩
    · obtain ⟨e', a, b, c⟩ := anyEdge_ok h
      exact ⟨e', List.mem_cons_of_mem _ a, b, c⟩
/-- Operation i comes surely before operation k. -/
def reach (ops : List Oper) : Nat → Nat → Nat → Bool
  | 0, _, _ => false
  | f + 1, k, i => match ops[k]? with
    | some o => predOf o i || anyEdge (fun m => reach ops f m i) o.after.toList
    | none => false

def Closed (ops : Array Oper) (listed : Array Bool) : Prop := ∀ k o, ops[k]? = some o → listed.getD k false = true → ∀ e ∈ o.after, Region.binds .any e = true → listed.getD e.on false = true
theorem reach_preds {ops : Array Oper} {listed : Array Bool} (hc : Closed ops listed) : ∀ (f k i : Nat), reach ops.toList f k i = true → (∀ o, ops[k]? = some o → ∀ e ∈ o.after, Region.binds .any e = true → listed.getD e.on false = true) → listed.getD i false = true
  | 0, k, i, h, _ => by cases h
  | f + 1, k, i, h, hp => by
    simp only [reach] at h
    split at h
    · rename_i o ho
      have ho' : ops[k]? = some o := by simpa using ho
      simp only [Bool.or_eq_true] at h
      rcases h with h | h
      · obtain ⟨e, he, h1, h2⟩ := predIn_ok h
        rw [← h1]; exact hp o ho' e (by simpa using he) h2
      · obtain ⟨e, he, h1, h2⟩ := anyEdge_ok h
        have hl := hp o ho' e (by simpa using he) h1
        exact reach_preds hc f e.on i h2 fun o' ho'' e' he' hb' => hc e.on o' ho'' hl e' he' hb'
    · cases h
theorem reach_listed {ops : Array Oper} {listed : Array Bool} (hc : Closed ops listed) {f k i : Nat} (h : reach ops.toList f k i = true) (hk : listed.getD k false = true) : listed.getD i false = true :=
  reach_preds hc f k i h fun o ho e he hb => hc k o ho hk e he hb

/-- The box that a load looks into. -/
def ldOf (o : Oper) (rs sl : List (Nat × SV)) : Option Nat := match o.op with
  | .load _ (.tmp s) => match lookD rs sl s with
    | some (.loc i _) => some i
    | some (.grd _ _ (.loc i _)) => some i
    | _ => none
  | _ => none
def ldBx (m : Mem) : Option Nat → List (Nat × TypeId × List SV)
  | some i => match findB m.bx i with
    | some c => [(i, c)]
    | none => []
  | none => []
def isApp : Op → Bool
  | .call c => match c.callee with
    | .builtin .append => true
    | _ => false
  | _ => false
def dPure (τ : Tab) (sp : Spec) (ops : Array Oper) (j : Nat) (o : Oper) (rs sl : List (Nat × SV)) (m : Mem) : Option Rec :=
  match o.dst, stepV τ sp ops (ldBx m (ldOf o rs sl)) (findV ops.toList j o rs sl) o with
  | some d, some (ps, x) => some ⟨ps, some (d, x), none, ldOf o rs sl, none, m⟩
  | _, _ => none
def dApp (τ : Tab) (ops : Array Oper) (n j : Nat) (o : Oper) (c : Call) (rs sl : List (Nat × SV)) (m : Mem) : Option Rec :=
  match c.args.toList, c.argTypes.toList, o.dst, o.guard with
  | [x, y], [T, T'], some d, none => match Nat.beq T T', lookF (findV ops.toList j o rs sl) [] x, lookF (findV ops.toList j o rs sl) [] y with
    | true, some s, some t => match St.append τ ⟨n, [], [], [], m.ow, m.nx⟩ d T s t with
      | some (ps, st') => some ⟨ps, some (d, .own m.nx), some none, none, none, ⟨m.bx, st'.ow, st'.nx⟩⟩
      | none => none
    | _, _, _ => none
  | _, _, _, _ => none
def dOp (τ : Tab) (sp : Spec) (ops : Array Oper) (n j : Nat) (o : Oper) (rs sl : List (Nat × SV)) (m : Mem) : Option Rec :=
  match o.op with
  | .alloc _ => match o.dst, o.guard with
    | some d, none => some ⟨[], some (d, .loc d 0), none, none, some d, m⟩
    | _, _ => none
  | .box _ _ => none
  | .store T x v => match o.dst, o.guard, lookF (findV ops.toList j o rs sl) [] x, lookF (findV ops.toList j o rs sl) [] v with
    | none, none, some (.loc i off), some y => match TySize τ T, cellsSV m.ow y, findB m.bx i with
      | some s, some cs, some (T', c) => match Nat.beq s cs.length && Nat.ble (off + cs.length) c.length with
        | true => some ⟨[], none, some (some i), none, none, ⟨setB i (T', layAt c off cs) m.bx, m.ow, m.nx⟩⟩
        | false => none
      | _, _, _ => none
    | _, _, _, _ => none
  | .call c => match isApp (.call c) with
    | true => dApp τ ops n j o c rs sl m
    | false => dPure τ sp ops j o rs sl m
  | _ => dPure τ sp ops j o rs sl m

def addE (r : Rec) (rs : List (Nat × SV)) : List (Nat × SV) := match r.ent with
  | some e => e :: rs
  | none => rs
def accR : List Rec → List (Nat × SV) → List (Nat × SV)
  | [], rs => rs
  | r :: l, rs => accR l (addE r rs)
def memAt (m : Mem) : List Rec → Nat → Mem
  | [], _ => m
  | _ :: _, 0 => m
  | r :: l, k + 1 => memAt r.post l k
def dRun (τ : Tab) (sp : Spec) (ops : Array Oper) (n : Nat) (sl : List (Nat × SV)) : Nat → List Oper → List (Nat × SV) → Mem → Option (List Rec)
  | _, [], _, _ => some []
  | j, o :: l, rs, m => match dOp τ sp ops n j o rs sl m with
    | some r => match dRun τ sp ops n sl (j + 1) l (addE r rs) r.post with
      | some rs' => some (r :: rs')
      | none => none
    | none => none

theorem dRun_spec {τ : Tab} {sp : Spec} {ops : Array Oper} {n : Nat} {sl : List (Nat × SV)} : ∀ (l : List Oper) (j : Nat) (rs : List (Nat × SV)) (m : Mem) (recs : List Rec), dRun τ sp ops n sl j l rs m = some recs →
    recs.length = l.length ∧ ∀ k o, l[k]? = some o → ∃ r, recs[k]? = some r ∧ dOp τ sp ops n (j + k) o (accR (recs.take k) rs) sl (memAt m recs k) = some r ∧ memAt m recs (k + 1) = r.post
  | [], j, rs, m, recs, h => by
    simp only [dRun, Option.some.injEq] at h; subst h
    exact ⟨rfl, fun k o hk => by simp at hk⟩
  | o :: l, j, rs, m, recs, h => by
    simp only [dRun] at h
    split at h
    · rename_i r hr
      split at h
      · rename_i recs' hrec
        simp only [Option.some.injEq] at h; subst h
        obtain ⟨h1, h2⟩ := dRun_spec l (j + 1) _ _ _ hrec
        refine ⟨by simp [h1], fun k o' hk => ?_⟩
        cases k with
        | zero =>
          simp at hk; subst hk
          refine ⟨r, rfl, by simpa [accR, memAt] using hr, ?_⟩
          cases recs' <;> rfl
        | succ k =>
          obtain ⟨r', a, b, c⟩ := h2 k o' (by simpa using hk)
          refine ⟨r', by simpa using a, ?_, by simpa [memAt] using c⟩
          rw [show j + (k + 1) = j + 1 + k by omega]
          simpa [accR, memAt] using b
      · cases h
    · cases h

theorem accR_find {s : Nat} {x : SV} : ∀ {l : List Rec} {rs : List (Nat × SV)}, findB (accR l rs) s = some x → (∃ (i : Nat) (r : Rec), l[i]? = some r ∧ r.ent = some (s, x)) ∨ findB rs s = some x
  | [], rs, h => .inr h
  | r :: l, rs, h => by
    rcases accR_find (l := l) h with ⟨i, r', a, b⟩ | h
    · exact .inl ⟨i + 1, r', by simpa using a, b⟩
    · unfold addE at h
      split at h
      · rename_i e he
        obtain ⟨d, y⟩ := e
        rw [findB_cons] at h
        split at h
        · rename_i hd
          obtain rfl := Option.some.inj h
          exact .inl ⟨0, r, rfl, by rw [he, hd]⟩
        · exact .inr h
      · exact .inr h
theorem accR_none {s : Nat} : ∀ {l : List Rec} {rs : List (Nat × SV)}, findB (accR l rs) s = none → (∀ (i : Nat) (r : Rec) (x : SV), l[i]? = some r → r.ent ≠ some (s, x)) ∧ findB rs s = none
  | [], rs, h => ⟨fun i r x hi => by simp at hi, h⟩
  | r :: l, rs, h => by
    obtain ⟨h1, h2⟩ := accR_none (l := l) h
    have h3 : (∀ x, r.ent ≠ some (s, x)) ∧ findB rs s = none := by
      unfold addE at h2
      split at h2
      · rename_i e he
        obtain ⟨d, y⟩ := e
        rw [findB_cons] at h2
        split at h2
        · cases h2
        · rename_i hd
          exact ⟨fun x hx => (by rw [he] at hx; exact hd (Prod.mk.inj (Option.some.inj hx)).1.symm), h2⟩
      · rename_i he
        exact ⟨fun x hx => (by rw [he] at hx; cases hx), h2⟩
    refine ⟨fun i r' x hi => ?_, h3.2⟩
    cases i with
    | zero => simp at hi; subst hi; exact h3.1 x
    | succ i => exact h1 i r' x (by simpa using hi)

/-- Own rows that x names have numbers below n. -/
def ownLt (n : Nat) : SV → Bool
  | .own j => Nat.blt j n
  | .d _ => true
  | .elem .. => true
  | .loc _ _ => true
  | .tup l => ownLtL n l
  | .grd _ _ x => ownLt n x
where
  ownLtL (n : Nat) : List SV → Bool
    | [] => true
    | x :: l => ownLt n x && ownLtL n l
theorem ownLt_mono {n m : Nat} (h : n ≤ m) : ∀ {x : SV}, ownLt n x = true → ownLt m x = true
  | .own j, hx => by
    simp only [ownLt] at *
    exact Nat.ble_eq_true_of_le (Nat.le_trans (Nat.le_of_ble_eq_true hx) h)
  | .d _, _ => rfl
  | .elem .., _ => rfl
  | .loc _ _, _ => rfl
  | .tup l, hx => by
    simp only [ownLt] at *
    exact go l hx
  | .grd _ _ x, hx => by
    simp only [ownLt] at *
    exact ownLt_mono h hx
where
  go : ∀ l : List SV, ownLt.ownLtL n l = true → ownLt.ownLtL m l = true
    | [], _ => rfl
    | x :: l, hl => by
      simp only [ownLt.ownLtL, Bool.and_eq_true] at *
      exact ⟨ownLt_mono h hl.1, go l hl.2⟩
theorem ownLt_noO {n : Nat} : ∀ {x : SV}, ownLt n x = true → x.namesO n = false
  | .own j, hx => by
    simp only [ownLt, SV.namesO] at *
    have := Nat.le_of_ble_eq_true hx
    cases hb : Nat.beq j n with
    | false => rfl
    | true => have := Nat.eq_of_beq_eq_true hb; omega
  | .d _, _ => rfl
  | .elem .., _ => rfl
  | .loc _ _, _ => rfl
  | .tup l, hx => by
    simp only [ownLt, SV.namesO] at *
    exact go l hx
  | .grd _ _ x, hx => by
    simp only [ownLt, SV.namesO] at *
    exact ownLt_noO hx
where
  go : ∀ l : List SV, ownLt.ownLtL n l = true → SV.namesO.namesOL n l = false
    | [], _ => rfl
    | x :: l, hl => by
      simp only [ownLt.ownLtL, SV.namesO.namesOL, Bool.and_eq_true, Bool.or_eq_false_iff] at *
      exact ⟨ownLt_noO hl.1, go l hl.2⟩

/-- A cell of a box: data, or a row that the call owns. -/
def plainC (n : Nat) : SV → Bool
  | .d _ => true
  | .own j => Nat.blt j n
  | _ => false
def plainCs (n : Nat) : List SV → Bool
  | [] => true
  | x :: l => plainC n x && plainCs n l
theorem plainCs_mem {n : Nat} {x : SV} : ∀ {l : List SV}, plainCs n l = true → x ∈ l → plainC n x = true
  | y :: l, h, hm => by
    simp only [plainCs, Bool.and_eq_true] at h
    rcases List.mem_cons.1 hm with rfl | hm
    · exact h.1
    · exact plainCs_mem h.2 hm
theorem plainCs_of {n : Nat} : ∀ {l : List SV}, (∀ x ∈ l, plainC n x = true) → plainCs n l = true
  | [], _ => rfl
  | x :: l, h => by
    simp only [plainCs, Bool.and_eq_true]
    exact ⟨h x List.mem_cons_self, plainCs_of fun y hy => h y (List.mem_cons_of_mem _ hy)⟩
def plainB (n : Nat) : List (Nat × TypeId × List SV) → Bool
  | [] => true
  | (_, _, l) :: r => plainCs n l && plainB n r
theorem plainB_mem {n i : Nat} {T : TypeId} {l : List SV} : ∀ {b : List (Nat × TypeId × List SV)}, plainB n b = true → (i, T, l) ∈ b → plainCs n l = true
  | (k, T', l') :: r, h, hm => by
    simp only [plainB, Bool.and_eq_true] at h
    rcases List.mem_cons.1 hm with hm | hm
    · obtain ⟨_, hm⟩ := Prod.mk.inj hm
      obtain ⟨_, rfl⟩ := Prod.mk.inj hm
      exact h.1
    · exact plainB_mem h.2 hm
theorem plainB_of {n : Nat} : ∀ {b : List (Nat × TypeId × List SV)}, (∀ i T l, (i, T, l) ∈ b → plainCs n l = true) → plainB n b = true
  | [], _ => rfl
  | (k, T, l) :: r, h => by
    simp only [plainB, Bool.and_eq_true]
    exact ⟨h k T l List.mem_cons_self, plainB_of fun i T' l' hm => h i T' l' (List.mem_cons_of_mem _ hm)⟩
theorem plainC_mono {n m : Nat} (h : n ≤ m) {x : SV} (hx : plainC n x = true) : plainC m x = true := by
  cases x with
  | own j => exact Nat.ble_eq_true_of_le (Nat.le_trans (Nat.le_of_ble_eq_true hx) h)
  | d x => rfl
  | loc i o => cases hx
  | elem => cases hx
  | tup => cases hx
  | grd => cases hx
theorem plainB_mono {n m : Nat} (h : n ≤ m) {b : List (Nat × TypeId × List SV)} (hb : plainB n b = true) : plainB m b = true :=
  plainB_of fun i T l hm => plainCs_of fun x hx => plainC_mono h (plainCs_mem (plainB_mem hb hm) hx)
theorem plainC_noO {n : Nat} {x : SV} (hx : plainC n x = true) : x.namesO n = false := by
  cases x with
  | own j => exact ownLt_noO (x := .own j) hx
  | d x => rfl
  | loc i o => cases hx
  | elem => cases hx
  | tup => cases hx
  | grd => cases hx
theorem plainB_noOB {n : Nat} : ∀ {b : List (Nat × TypeId × List SV)}, plainB n b = true → noOB n b = true
  | [], _ => rfl
  | (k, T, l) :: r, h => by
    simp only [plainB, Bool.and_eq_true] at h
    have hl : noOC n l = true := go l h.1
    simp only [noOB, hl]
    exact plainB_noOB h.2
where
  go : ∀ l : List SV, plainCs n l = true → noOC n l = true
    | [], _ => rfl
    | x :: l, hl => by
      simp only [plainCs, Bool.and_eq_true] at hl
      simp only [noOC, plainC_noO hl.1]
      exact go l hl.2
theorem plainB_noName {n d : Nat} : ∀ {b : List (Nat × TypeId × List SV)}, plainB n b = true → noNameB d b = true
  | [], _ => rfl
  | (k, T, l) :: r, h => by
    simp only [plainB, Bool.and_eq_true] at h
    have hl : noNameC d l = true := go l h.1
    simp only [noNameB, hl]
    exact plainB_noName h.2
where
  go : ∀ l : List SV, plainCs n l = true → noNameC d l = true
    | [], _ => rfl
    | x :: l, hl => by
      simp only [plainCs, Bool.and_eq_true] at hl
      have : x.names d = false := by
        cases x with
        | own j => rfl
        | d x => rfl
        | loc i o => cases hl.1
        | elem => cases hl.1
        | tup => cases hl.1
        | grd => cases hl.1
      simp only [noNameC, this]
      exact go l hl.2
end Go.Sim

namespace Go.Sim
open Go.RowKit (Below)

def drawOKe (n : Nat) : Nat → List Nat → List Oper → Bool
  | _, _, [] => true
  | j, ds, o :: l => match o.dst with
    | some d => Nat.blt d n && !(ds.elem d) && edgesBack j o.after.toList && (match o.guard with
      | some (m, _) => predOf o m
      | none => true) && drawOKe n (j + 1) (d :: ds) l
    | none => edgesBack j o.after.toList && drawOKe n (j + 1) ds l

theorem drawOKe_ok {n : Nat} : ∀ (l : List Oper) (j : Nat) (ds : List Nat), drawOKe n j ds l = true → ∀ k o, l[k]? = some o → (∀ e ∈ o.after, Region.binds .any e = true → e.on < j + k) ∧
    ∀ d, o.dst = some d → d < n ∧ d ∉ ds ∧ (∀ k', k' < k → ∀ o', l[k']? = some o' → o'.dst ≠ some d) ∧ (∀ m p, o.guard = some (m, p) → predOf o m = true)
  | [], j, ds, h, k, o, hk => by simp at hk
  | o' :: l, j, ds, h, k, o, hk => by
    simp only [drawOKe] at h
    split at h
    · rename_i d hd
      simp only [Bool.and_eq_true, Bool.not_eq_true'] at h
      obtain ⟨⟨⟨⟨h1, h2⟩, h3⟩, h4⟩, h5⟩ := h
      cases k with
      | zero =>
        simp at hk; subst hk
        refine ⟨fun e he hb => edgesBack_ok h3 e (by simpa using he) hb, fun d' hd' => ?_⟩
        rw [hd] at hd'
        obtain rfl := Option.some.inj hd'
        refine ⟨Nat.le_of_ble_eq_true h1, fun hm => ?_, fun k' hk' => absurd hk' (Nat.not_lt_zero k'), fun m p hg => ?_⟩
        · rw [List.elem_eq_mem] at h2; simp [hm] at h2
        · simpa [hg] using h4
      | succ k =>
        obtain ⟨a1, a2⟩ := drawOKe_ok l (j + 1) (d :: ds) h5 k o (by simpa using hk)
        refine ⟨fun e he hb => by have := a1 e he hb; omega, fun d' hd' => ?_⟩
        obtain ⟨b1, b2, b3, b4⟩ := a2 d' hd'
        refine ⟨b1, fun hm => b2 (List.mem_cons_of_mem _ hm), fun k' hk' o'' ho'' => ?_, b4⟩
        cases k' with
        | zero =>
          simp at ho''; subst ho''
          rw [hd]
          intro e
          have : d = d' := by simpa using e
          exact b2 (this ▸ List.mem_cons_self)
        | succ k' => exact b3 k' (by omega) o'' (by simpa using ho'')
    · rename_i hd
      simp only [Bool.and_eq_true] at h
      obtain ⟨h3, h5⟩ := h
      cases k with
      | zero =>
        simp at hk; subst hk
        exact ⟨fun e he hb => edgesBack_ok h3 e (by simpa using he) hb, fun d' hd' => by rw [hd] at hd'; cases hd'⟩
      | succ k =>
        obtain ⟨a1, a2⟩ := drawOKe_ok l (j + 1) ds h5 k o (by simpa using hk)
        refine ⟨fun e he hb => by have := a1 e he hb; omega, fun d' hd' => ?_⟩
        obtain ⟨b1, b2, b3, b4⟩ := a2 d' hd'
        refine ⟨b1, b2, fun k' hk' o'' ho'' => ?_, b4⟩
        cases k' with
        | zero => simp at ho''; subst ho''; rw [hd]; intro e; cases e
        | succ k' => exact b3 k' (by omega) o'' (by simpa using ho'')

/-- For every record and its number. -/
def allI (f : Nat → Rec → Bool) : Nat → List Rec → Bool
  | _, [] => true
  | k, r :: l => f k r && allI f (k + 1) l
theorem allI_ok {f : Nat → Rec → Bool} : ∀ {l : List Rec} {j : Nat}, allI f j l = true → ∀ k r, l[k]? = some r → f (j + k) r = true
  | [], j, h, k, r, hk => by simp at hk
  | x :: l, j, h, k, r, hk => by
    simp only [allI, Bool.and_eq_true] at h
    cases k with
    | zero => simp at hk; subst hk; exact h.1
    | succ k =>
      have := allI_ok h.2 k r (by simpa using hk)
      rwa [show j + 1 + k = j + (k + 1) by omega] at this
def isSm {α : Type} : Option α → Bool
  | some _ => true
  | none => false
def eqN (x : Option Nat) (i : Nat) : Bool := match x with
  | some k => Nat.beq k i
  | none => false
theorem eqN_ok {x : Option Nat} {i : Nat} (h : x = some i) : eqN x i = true := by subst h; simp [eqN]
def onBox (x : Option (Option Nat)) (i : Nat) : Bool := match x with
  | some (some k) => Nat.beq k i
  | _ => false
theorem onBox_ok {x : Option (Option Nat)} {i : Nat} (h : x = some (some i)) : onBox x i = true := by subst h; simp [onBox]
def isApT (x : Option (Option Nat)) : Bool := match x with
  | some none => true
  | _ => false

/-- Effects come in the text's order. -/
def chkE (ops : List Oper) (recs : List Rec) : Bool := allI (fun k r => !(isSm r.tgt) || allI (fun i ri => !(isSm ri.tgt && Nat.blt i k) || reach ops ops.length k i) 0 recs) 0 recs
/-- A load comes surely before or surely behind each store into its box, and behind the box's making. -/
def chkL (ops : List Oper) (recs : List Rec) : Bool := allI (fun j r => match r.ld with
  | none => true
  | some i => allI (fun e re => (!(onBox re.tgt i) || ((Nat.blt e j && reach ops ops.length j e) || (Nat.blt j e && reach ops ops.length e j))) && (!(eqN re.al i) || reach ops ops.length j e)) 0 recs) 0 recs
/-- A store comes behind its box's making. -/
def chkS (ops : List Oper) (recs : List Rec) : Bool := allI (fun e r => match r.tgt with
  | some (some i) => allI (fun a ra => !(eqN ra.al i) || reach ops ops.length e a) 0 recs
  | _ => true) 0 recs
/-- A new box has a number that nobody names, but behind it. -/
def chkA (ops : List Oper) (recs : List Rec) (st : St) : Bool := allI (fun a r => match r.al with
  | none => true
  | some d => isNone (findB st.bx d) && noName d st.sl && allI (fun k rk => match rk.ent with
    | some (_, x) => Nat.beq k a || !(x.names d) || reach ops ops.length k a
    | none => true) 0 recs) 0 recs
/-- The rows that entries name are there when they are written. -/
def chkO (ops : List Oper) (recs : List Rec) (m : Mem) : Bool := allI (fun k r => match r.ent with
  | some (_, x) => isApT r.tgt || (ownLt (memAt m recs k).nx x && (ownLt m.nx x || allI (fun e re => !(isApT re.tgt && Nat.blt e k) || reach ops ops.length k e) 0 recs))
  | none => true) 0 recs
def chkG (recs : List Rec) (st : St) : Bool := allI (fun _ r => match r.ent with
  | some (s, x) => !(isG x) || isNone (findB st.sl s)
  | none => true) 0 recs
def ownLtS (n : Nat) : List (Nat × SV) → Bool
  | [] => true
  | (_, x) :: l => ownLt n x && ownLtS n l
theorem ownLtS_mem {n s : Nat} {x : SV} : ∀ {l : List (Nat × SV)}, ownLtS n l = true → (s, x) ∈ l → ownLt n x = true
  | (k, y) :: l, h, hm => by
    simp only [ownLtS, Bool.and_eq_true] at h
    rcases List.mem_cons.1 hm with hm | hm
    · obtain ⟨rfl, rfl⟩ := Prod.mk.inj hm; exact h.1
    · exact ownLtS_mem h.2 hm

def allocsOf (τ : Tab) : List Oper → Option (List (Nat × TypeId × List SV))
  | [] => some []
  | o :: l => match o.op with
    | .alloc T => match o.dst, zeroOf τ T, allocsOf τ l with
      | some d, some r, some q => match (oneR r || isAggR r) && allOne r.cells with
        | true => some ((d, T, r.cells.map .d) :: q)
        | false => none
      | _, _, _ => none
    | _ => allocsOf τ l

def entsOf : List Rec → List (Nat × SV)
  | [] => []
  | r :: l => match r.ent with
    | some e => match isG e.2 with
      | true => entsOf l
      | false => e :: entsOf l
    | none => entsOf l
def psOf : List Rec → List Prop
  | [] => []
  | r :: l => r.ps ++ psOf l

/-- The state behind the region. -/
def dTry (τ : Tab) (sp : Spec) (ops : Array Oper) (st : St) : Option (List Prop × St) :=
  match drawOKe st.n 0 [] ops.toList && isNil st.gl && ownLtS st.nx st.sl, allocsOf τ ops.toList with
  | true, some al => match plainB st.nx st.bx && plainB st.nx al, dRun τ sp ops st.n st.sl 0 ops.toList [] ⟨al ++ st.bx, st.ow, st.nx⟩ with
    | true, some recs => match chkE ops.toList recs && chkL ops.toList recs && chkS ops.toList recs && chkA ops.toList recs st && chkO ops.toList recs ⟨al ++ st.bx, st.ow, st.nx⟩ && chkG recs st with
      | true => some (psOf recs, ⟨st.n, entsOf recs ++ st.sl, [], (memAt ⟨al ++ st.bx, st.ow, st.nx⟩ recs recs.length).bx, (memAt ⟨al ++ st.bx, st.ow, st.nx⟩ recs recs.length).ow, (memAt ⟨al ++ st.bx, st.ow, st.nx⟩ recs recs.length).nx⟩)
      | false => none
    | _, _ => none
  | _, _ => none

theorem entsOf_mem {e : Nat × SV} : ∀ {l : List Rec}, e ∈ entsOf l → ∃ (k : Nat) (r : Rec), l[k]? = some r ∧ r.ent = some e ∧ isG e.2 = false
  | r :: l, h => by
    have lift : e ∈ entsOf l → ∃ (k : Nat) (r' : Rec), (r :: l)[k]? = some r' ∧ r'.ent = some e ∧ isG e.2 = false := fun h => by
      obtain ⟨k, r', a, b, c⟩ := entsOf_mem h
      exact ⟨k + 1, r', by simpa using a, b, c⟩
    simp only [entsOf] at h
    split at h
    · rename_i e' he
      split at h
      · exact lift h
      · rename_i hg
        rcases List.mem_cons.1 h with rfl | h
        · exact ⟨0, r, rfl, he, hg⟩
        · exact lift h
    · exact lift h
theorem psOf_mem {p : Prop} {k : Nat} {r : Rec} : ∀ {l : List Rec}, l[k]? = some r → p ∈ r.ps → p ∈ psOf l := by
  intro l
  induction l generalizing k with
  | nil => intro h; simp at h
  | cons x l ih =>
    intro h hp
    simp only [psOf]
    cases k with
    | zero => simp at h; subst h; exact List.mem_append.2 (.inl hp)
    | succ k => exact List.mem_append.2 (.inr (ih (by simpa using h) hp))

theorem dOp_dst {τ : Tab} {sp : Spec} {ops : Array Oper} {n j : Nat} {o : Oper} {rs sl : List (Nat × SV)} {m : Mem} {r : Rec} (h : dOp τ sp ops n j o rs sl m = some r) :
    (∀ s x, r.ent = some (s, x) → o.dst = some s) ∧ (r.al.isSome = true → ∃ T d, o.op = .alloc T ∧ o.dst = some d ∧ o.guard = none ∧ r = ⟨[], some (d, .loc d 0), none, none, some d, m⟩) := by
  have hpure : ∀ {r : Rec}, dPure τ sp ops j o rs sl m = some r → (∀ s x, r.ent = some (s, x) → o.dst = some s) ∧ r.al = none := fun h => by
    unfold dPure at h
    split at h
    · rename_i d ps x hd hs
      simp only [Option.some.injEq] at h; subst h
      exact ⟨fun s x hx => by
        simp only [Option.some.injEq, Prod.mk.injEq] at hx
        rw [hd, hx.1], rfl⟩
    · cases h
  unfold dOp at h
  split at h
  · rename_i T ho
    split at h
    · rename_i d hd hg
      simp only [Option.some.injEq] at h; subst h
      exact ⟨fun s x hx => by
        simp only [Option.some.injEq, Prod.mk.injEq] at hx
        rw [hd, hx.1], fun _ => ⟨T, d, ho, hd, hg, rfl⟩⟩
    · cases h
  · cases h
  · split at h
    · split at h
      · split at h
        · simp only [Option.some.injEq] at h; subst h
          exact ⟨fun s x hx => (by cases hx), fun h => (by cases h)⟩
        · cases h
      · cases h
    · cases h
  · split at h
    · unfold dApp at h
      split at h
      · rename_i d h1 h2 hd hg
        split at h
        · split at h
          · simp only [Option.some.injEq] at h; subst h
            exact ⟨fun s x hx => by
              simp only [Option.some.injEq, Prod.mk.injEq] at hx
              rw [hd, hx.1], fun h => by cases h⟩
          · cases h
        · cases h
      · cases h
    · obtain ⟨a, b⟩ := hpure h
      exact ⟨a, fun h => by rw [b] at h; cases h⟩
  · obtain ⟨a, b⟩ := hpure h
    exact ⟨a, fun h => by rw [b] at h; cases h⟩

theorem noGuard_of {d : Nat} : ∀ {l : List (Nat × Nat × Bool × SV)}, (∀ s g p x, (s, g, p, x) ∈ l → g ≠ d) → noGuard d l = true
  | [], _ => rfl
  | (k, g, p, x) :: l, h => by
    have hg := h k g p x List.mem_cons_self
    simp only [noGuard]
    cases hb : Nat.beq g d with
    | true => exact absurd (Nat.eq_of_beq_eq_true hb) hg
    | false => exact noGuard_of fun s g' p' x' hm => h s g' p' x' (List.mem_cons_of_mem _ hm)
theorem noName_of {d : Nat} : ∀ {l : List (Nat × SV)}, (∀ s x, (s, x) ∈ l → x.names d = false) → noName d l = true
  | [], _ => rfl
  | (k, x) :: l, h => by
    simp only [noName, h k x List.mem_cons_self]
    exact noName_of fun s x' hm => h s x' (List.mem_cons_of_mem _ hm)
theorem noNameG_of {d : Nat} : ∀ {l : List (Nat × Nat × Bool × SV)}, (∀ s g p x, (s, g, p, x) ∈ l → x.names d = false) → noNameG d l = true
  | [], _ => rfl
  | (k, g, p, x) :: l, h => by
    simp only [noNameG, h k g p x List.mem_cons_self]
    exact noNameG_of fun s g' p' x' hm => h s g' p' x' (List.mem_cons_of_mem _ hm)
theorem noO_of {d : Nat} : ∀ {l : List (Nat × SV)}, (∀ s x, (s, x) ∈ l → x.namesO d = false) → noO d l = true
  | [], _ => rfl
  | (k, x) :: l, h => by
    simp only [noO, h k x List.mem_cons_self]
    exact noO_of fun s x' hm => h s x' (List.mem_cons_of_mem _ hm)
theorem noOG_of {d : Nat} : ∀ {l : List (Nat × Nat × Bool × SV)}, (∀ s g p x, (s, g, p, x) ∈ l → x.namesO d = false) → noOG d l = true
  | [], _ => rfl
  | (k, g, p, x) :: l, h => by
    simp only [noOG, h k g p x List.mem_cons_self]
    exact noOG_of fun s g' p' x' hm => h s g' p' x' (List.mem_cons_of_mem _ hm)

/-- Two states that say the same of what is looked up. -/
theorem Rel.of_same {W : World} {N0 F : Nat → Prop} {st st' : St} {β : Envr} {a : Act} {w : World} (h : Rel W N0 F st β a w) (hn : st'.n = st.n) (hs : ∀ s x, findB st'.sl s = some x → findB st.sl s = some x) (hg : st'.gl = [])
    (hb : ∀ i, findB st'.bx i = findB st.bx i) (ho : st'.ow = st.ow) (hx : st'.nx = st.nx) : Rel W N0 F st' β a w := by
  have hN : ∀ b, b < w.heap.size → NB N0 β st'.bx st'.ow b → NB N0 β st.bx st.ow b := by
    rintro b _ (h0 | ⟨i, hi, h1⟩ | ⟨i, hi, h1⟩)
    · exact .inl h0
    · exact .inr (.inl ⟨i, by rw [← hb]; exact hi, h1⟩)
    · exact .inr (.inr ⟨i, by rw [← ho]; exact hi, h1⟩)
  refine ⟨h.keeps, by rw [hn]; exact h.size, h.defers, fun s x hx' => (h.slots s x (hs s x hx')).less hN, fun s g p x hx' => (by rw [hg] at hx'; cases hx'), fun i T cs hi => ?_, fun i j hi hj => ?_, fun i hi => ?_, h.outer, ?_, fun i j b hi hj => ?_, fun i j hi hj => ?_, fun i hi => ?_⟩
  · rw [hb] at hi
    obtain ⟨vs, v1, v2, v3⟩ := h.boxes i T cs hi
    exact ⟨vs, v1, v2.less hN, v3⟩
  · rw [hb] at hi hj; exact h.inj i j hi hj
  · rw [hb] at hi; exact h.own i hi
  · have h5 := h.owns.less hN
    rw [← ho] at h5; exact h5
  · rw [ho] at hi hj; exact h.odist i j b hi hj
  · rw [ho] at hi; rw [hb] at hj; exact h.obox i j hi hj
  · rw [ho] at hi; rw [hx]; exact h.onx i hi
end Go.Sim

namespace Go.Sim
open Go.RowKit (Below)

section
variable {P : Program} {τ : Tab} [TabOk P τ] {sp : Spec}

/-- What is fixed of a region. -/
structure DCtx (τ : Tab) (sp : Spec) (ops : Array Oper) (st : St) (al : List (Nat × TypeId × List SV)) (recs : List Rec) : Prop where
  len : recs.length = ops.size
  spec : ∀ k o, ops[k]? = some o → ∃ r, recs[k]? = some r ∧ dOp τ sp ops st.n k o (accR (recs.take k) []) st.sl (memAt ⟨al ++ st.bx, st.ow, st.nx⟩ recs k) = some r ∧ memAt ⟨al ++ st.bx, st.ow, st.nx⟩ recs (k + 1) = r.post
  ok : drawOKe st.n 0 [] ops.toList = true
  gl : st.gl = []
  osl : ownLtS st.nx st.sl = true
  pbx : plainB st.nx st.bx = true
  allocs : allocsOf τ ops.toList = some al
  cE : chkE ops.toList recs = true
  cL : chkL ops.toList recs = true
  cS : chkS ops.toList recs = true
  cA : chkA ops.toList recs st = true
  cO : chkO ops.toList recs ⟨al ++ st.bx, st.ow, st.nx⟩ = true
  cG : chkG recs st = true
  ps : ∀ (k : Nat) (r : Rec), recs[k]? = some r → ∀ p ∈ r.ps, p

variable {ops : Array Oper} {st0 : St} {al : List (Nat × TypeId × List SV)} {recs : List Rec}
abbrev DCtx.m0 (_ : DCtx τ sp ops st0 al recs) : Mem := ⟨al ++ st0.bx, st0.ow, st0.nx⟩

theorem DCtx.op_of (c : DCtx τ sp ops st0 al recs) {k : Nat} {r : Rec} (h : recs[k]? = some r) : ∃ o, ops[k]? = some o ∧ dOp τ sp ops st0.n k o (accR (recs.take k) []) st0.sl (memAt c.m0 recs k) = some r ∧ memAt c.m0 recs (k + 1) = r.post := by
  have hk : k < ops.size := by rw [← c.len]; exact (List.getElem?_eq_some_iff.1 h).1
  obtain ⟨r', h1, h2, h3⟩ := c.spec k ops[k] (Array.getElem?_eq_getElem hk)
  rw [h] at h1
  obtain rfl := Option.some.inj h1
  exact ⟨_, Array.getElem?_eq_getElem hk, h2, h3⟩
theorem DCtx.dst (c : DCtx τ sp ops st0 al recs) {k s : Nat} {r : Rec} {x : SV} (h : recs[k]? = some r) (he : r.ent = some (s, x)) : ∃ o, ops[k]? = some o ∧ o.dst = some s := by
  obtain ⟨o, h1, h2, _⟩ := c.op_of h
  exact ⟨o, h1, (dOp_dst h2).1 s x he⟩
theorem DCtx.inj (c : DCtx τ sp ops st0 al recs) {k k' d : Nat} {o o' : Oper} (h : ops[k]? = some o) (h' : ops[k']? = some o') (hd : o.dst = some d) (hd' : o'.dst = some d) : k = k' := by
  rcases Nat.lt_trichotomy k k' with hlt | heq | hgt
  · obtain ⟨_, _, h3, _⟩ := (drawOKe_ok ops.toList 0 [] c.ok k' o' (by simpa using h')).2 d hd'
    exact absurd hd (h3 k hlt o (by simpa using h))
  · exact heq
  · obtain ⟨_, _, h3, _⟩ := (drawOKe_ok ops.toList 0 [] c.ok k o (by simpa using h)).2 d hd
    exact absurd hd' (h3 k' hgt o' (by simpa using h'))
theorem DCtx.injE (c : DCtx τ sp ops st0 al recs) {k k' s : Nat} {r r' : Rec} {x x' : SV} (h : recs[k]? = some r) (h' : recs[k']? = some r') (he : r.ent = some (s, x)) (he' : r'.ent = some (s, x')) : k = k' := by
  obtain ⟨o, a, b⟩ := c.dst h he
  obtain ⟨o', a', b'⟩ := c.dst h' he'
  exact c.inj a a' b b'

/-- Memory where no effect lies between. -/
theorem DCtx.mem_step (c : DCtx τ sp ops st0 al recs) {k : Nat} {r : Rec} (h : recs[k]? = some r) (hn : r.tgt = none) : memAt c.m0 recs (k + 1) = memAt c.m0 recs k := by
  obtain ⟨o, h1, h2, h3⟩ := c.op_of h
  rw [h3]
  have hpure : ∀ {r : Rec}, dPure τ sp ops k o (accR (recs.take k) []) st0.sl (memAt c.m0 recs k) = some r → r.post = memAt c.m0 recs k := fun h => by
    unfold dPure at h
    split at h
    · simp only [Option.some.injEq] at h; subst h; rfl
    · cases h
  unfold dOp at h2
  split at h2
  · split at h2
    · simp only [Option.some.injEq] at h2; subst h2; rfl
    · cases h2
  · cases h2
  · split at h2
    · split at h2
      · split at h2
        · simp only [Option.some.injEq] at h2; subst h2; cases hn
        · cases h2
      · cases h2
    · cases h2
  · split at h2
    · unfold dApp at h2
      split at h2
      · split at h2
        · split at h2
          · simp only [Option.some.injEq] at h2; subst h2; cases hn
          · cases h2
        · cases h2
      · cases h2
    · exact hpure h2
  · exact hpure h2
theorem memAt_end (m : Mem) : ∀ (l : List Rec) (k : Nat), l.length ≤ k → memAt m l k = memAt m l l.length
  | [], k, _ => rfl
  | r :: l, 0, h => by simp at h
  | r :: l, k + 1, h => by
    simp only [memAt, List.length_cons]
    exact memAt_end r.post l k (by simpa using h)
theorem DCtx.mem_const (c : DCtx τ sp ops st0 al recs) {a : Nat} : ∀ {b : Nat}, a ≤ b → (∀ (k : Nat) (r : Rec), a ≤ k → k < b → recs[k]? = some r → r.tgt = none) → memAt c.m0 recs b = memAt c.m0 recs a
  | 0, h, _ => by rw [show a = 0 by omega]
  | b + 1, h, hn => by
    rcases Nat.eq_or_lt_of_le h with rfl | h
    · rfl
    · rw [← c.mem_const (b := b) (by omega) fun k r h1 h2 => hn k r h1 (by omega)]
      cases hr : recs[b]? with
      | none =>
        have hl : recs.length ≤ b := List.getElem?_eq_none_iff.1 hr
        rw [memAt_end _ _ _ (by omega : recs.length ≤ b + 1), memAt_end _ _ _ hl]
      | some r => exact c.mem_step hr (hn b r (by omega) (by omega) hr)

/-- One effect: what it does to a box that it does not write. -/
theorem DCtx.box_step (c : DCtx τ sp ops st0 al recs) {k i : Nat} {r : Rec} (h : recs[k]? = some r) (hn : r.tgt ≠ some (some i)) : findB (memAt c.m0 recs (k + 1)).bx i = findB (memAt c.m0 recs k).bx i := by
  cases ht : r.tgt with
  | none => rw [c.mem_step h ht]
  | some t =>
    obtain ⟨o, h1, h2, h3⟩ := c.op_of h
    rw [h3]
    have hpure : ∀ {r : Rec}, dPure τ sp ops k o (accR (recs.take k) []) st0.sl (memAt c.m0 recs k) = some r → r.tgt = none := fun h => by
      unfold dPure at h
      split at h
      · simp only [Option.some.injEq] at h; subst h; rfl
      · cases h
    unfold dOp at h2
    split at h2
    · split at h2
      · simp only [Option.some.injEq] at h2; subst h2; cases ht
      · cases h2
    · cases h2
    · split at h2
      · split at h2
        · split at h2
          · simp only [Option.some.injEq] at h2; subst h2
            have hne : i ≠ _ := fun e => hn (by rw [e])
            simp only [findB_setB, if_neg hne]
          · cases h2
        · cases h2
      · cases h2
    · split at h2
      · unfold dApp at h2
        split at h2
        · split at h2
          · split at h2
            · simp only [Option.some.injEq] at h2; subst h2; rfl
            · cases h2
          · cases h2
        · cases h2
      · rw [hpure h2] at ht; cases ht
    · rw [hpure h2] at ht; cases ht
theorem DCtx.box_const (c : DCtx τ sp ops st0 al recs) {a i : Nat} : ∀ {b : Nat}, a ≤ b → (∀ (k : Nat) (r : Rec), a ≤ k → k < b → recs[k]? = some r → r.tgt ≠ some (some i)) → findB (memAt c.m0 recs b).bx i = findB (memAt c.m0 recs a).bx i
  | 0, h, _ => by rw [show a = 0 by omega]
  | b + 1, h, hn => by
    rcases Nat.eq_or_lt_of_le h with rfl | h
    · rfl
    · rw [← c.box_const (b := b) (by omega) fun k r h1 h2 => hn k r h1 (by omega)]
      cases hr : recs[b]? with
      | none =>
        have hl : recs.length ≤ b := List.getElem?_eq_none_iff.1 hr
        rw [memAt_end _ _ _ (by omega : recs.length ≤ b + 1), memAt_end _ _ _ hl]
      | some r => exact c.box_step hr (hn b r (by omega) (by omega) hr)
/-- Rows' numbers grow. -/
theorem DCtx.nx_step (c : DCtx τ sp ops st0 al recs) (k : Nat) : (memAt c.m0 recs k).nx ≤ (memAt c.m0 recs (k + 1)).nx := by
  cases hr : recs[k]? with
  | none =>
    have hl : recs.length ≤ k := List.getElem?_eq_none_iff.1 hr
    rw [memAt_end _ _ _ (by omega : recs.length ≤ k + 1), memAt_end _ _ _ hl]
    exact Nat.le_refl _
  | some r =>
    obtain ⟨o, h1, h2, h3⟩ := c.op_of hr
    rw [h3]
    have hpure : ∀ {r : Rec}, dPure τ sp ops k o (accR (recs.take k) []) st0.sl (memAt c.m0 recs k) = some r → r.post = memAt c.m0 recs k := fun h => by
      unfold dPure at h
      split at h
      · simp only [Option.some.injEq] at h; subst h; rfl
      · cases h
    unfold dOp at h2
    split at h2
    · split at h2
      · simp only [Option.some.injEq] at h2; subst h2; exact Nat.le_refl _
      · cases h2
    · cases h2
    · split at h2
      · split at h2
        · split at h2
          · simp only [Option.some.injEq] at h2; subst h2; exact Nat.le_refl _
          · cases h2
        · cases h2
      · cases h2
    · split at h2
      · unfold dApp at h2
        split at h2
        · split at h2
          · split at h2
            · rename_i ps st' happ
              simp only [Option.some.injEq] at h2; subst h2
              have : st'.nx = (memAt c.m0 recs k).nx + 1 := by
                unfold St.append at happ
                split at happ
                case h_2 => cases happ
                split at happ
                case h_2 => cases happ
                split at happ
                case h_2 => cases happ
                split at happ
                case h_2 => cases happ
                split at happ
                case h_2 => cases happ
                simp only [Option.some.injEq, Prod.mk.injEq] at happ
                rw [← happ.2]
              show _ ≤ st'.nx
              omega
            · cases h2
          · cases h2
        · cases h2
      · rw [hpure h2]; exact Nat.le_refl _
    · rw [hpure h2]; exact Nat.le_refl _
theorem DCtx.nx_mono (c : DCtx τ sp ops st0 al recs) {a : Nat} : ∀ {b : Nat}, a ≤ b → (memAt c.m0 recs a).nx ≤ (memAt c.m0 recs b).nx
  | 0, h => by rw [show a = 0 by omega]; exact Nat.le_refl _
  | b + 1, h => by
    rcases Nat.eq_or_lt_of_le h with rfl | h
    · exact Nat.le_refl _
    · exact Nat.le_trans (c.nx_mono (b := b) (by omega)) (c.nx_step b)
/-- Rows' numbers without an append between. -/
theorem DCtx.nx_const (c : DCtx τ sp ops st0 al recs) {k : Nat} (hn : ∀ r : Rec, recs[k]? = some r → r.tgt ≠ some none) : (memAt c.m0 recs (k + 1)).nx = (memAt c.m0 recs k).nx := by
  cases hr : recs[k]? with
  | none =>
    have hl : recs.length ≤ k := List.getElem?_eq_none_iff.1 hr
    rw [memAt_end _ _ _ (by omega : recs.length ≤ k + 1), memAt_end _ _ _ hl]
  | some r =>
    obtain ⟨o, h1, h2, h3⟩ := c.op_of hr
    rw [h3]
    have hne := hn r hr
    have hpure : ∀ {r : Rec}, dPure τ sp ops k o (accR (recs.take k) []) st0.sl (memAt c.m0 recs k) = some r → r.post = memAt c.m0 recs k := fun h => by
      unfold dPure at h
      split at h
      · simp only [Option.some.injEq] at h; subst h; rfl
      · cases h
    unfold dOp at h2
    split at h2
    · split at h2
      · simp only [Option.some.injEq] at h2; subst h2; rfl
      · cases h2
    · cases h2
    · split at h2
      · split at h2
        · split at h2
          · simp only [Option.some.injEq] at h2; subst h2; rfl
          · cases h2
        · cases h2
      · cases h2
    · split at h2
      · unfold dApp at h2
        split at h2
        · split at h2
          · split at h2
            · simp only [Option.some.injEq] at h2; subst h2; exact absurd rfl hne
            · cases h2
          · cases h2
        · cases h2
      · rw [hpure h2]
    · rw [hpure h2]
end
end Go.Sim

namespace Go.Sim
open Go.RowKit (Below)

section
variable {P : Program} {τ : Tab} [TabOk P τ] {sp : Spec} {ops : Array Oper} {st0 : St} {al : List (Nat × TypeId × List SV)} {recs : List Rec}

structure EInv (c : DCtx τ sp ops st0 al recs) (listed : Array Bool) (st : St) (q : Nat) : Prop where
  size' : listed.size = ops.size
  closed : Closed ops listed
  q1 : ∀ (e : Nat) (r : Rec), recs[e]? = some r → r.tgt ≠ none → e < q → listed.getD e false = true
  q2 : ∀ (e : Nat) (r : Rec), recs[e]? = some r → r.tgt ≠ none → q ≤ e → listed.getD e false = false
  n : st.n = st0.n
  done : ∀ (k : Nat) (r : Rec) (d : Nat) (x : SV), recs[k]? = some r → r.ent = some (d, x) → listed.getD k false = true → isG x = false → findB st.sl d = some x
  doneG : ∀ (k : Nat) (r : Rec) (d g : Nat) (p : Bool) (y : SV), recs[k]? = some r → r.ent = some (d, .grd g p y) → listed.getD k false = true → findB st.gl d = some (g, p, y)
  old : ∀ s : Nat, (∀ (k : Nat) (r : Rec) (x : SV), recs[k]? = some r → r.ent = some (s, x) → listed.getD k false = true → False) → findB st.sl s = findB st0.sl s
  slM : ∀ (s : Nat) (x : SV), (s, x) ∈ st.sl → (s, x) ∈ st0.sl ∨ ∃ (k : Nat) (r : Rec), recs[k]? = some r ∧ r.ent = some (s, x) ∧ listed.getD k false = true
  glM : ∀ (s g : Nat) (p : Bool) (y : SV), (s, g, p, y) ∈ st.gl → ∃ (k : Nat) (r : Rec), recs[k]? = some r ∧ r.ent = some (s, .grd g p y) ∧ listed.getD k false = true
  bx1 : ∀ i : Nat, (∀ (a : Nat) (r : Rec), recs[a]? = some r → r.al = some i → listed.getD a false = true) → findB st.bx i = findB (memAt c.m0 recs q).bx i
  bx2 : ∀ (i a : Nat) (r : Rec), recs[a]? = some r → r.al = some i → listed.getD a false = false → findB st.bx i = none
  bxP : plainB st.nx st.bx = true
  ow : st.ow = (memAt c.m0 recs q).ow
  nx : st.nx = (memAt c.m0 recs q).nx

theorem boolF {b : Bool} (h : b = true → False) : b = false := by cases b with | false => rfl | true => exact (h rfl).elim
theorem listed_set {listed : Array Bool} {j k : Nat} (h : k ≠ j) (d : Bool) : (listed.setIfInBounds j true).getD k d = listed.getD k d := getD_set_ne d (Ne.symm h)

variable {c : DCtx τ sp ops st0 al recs} {listed : Array Bool} {st : St} {q : Nat}

theorem DCtx.chain (c : DCtx τ sp ops st0 al recs) {k i : Nat} {r ri : Rec} (h : recs[k]? = some r) (hi : recs[i]? = some ri) (ht : r.tgt ≠ none) (hti : ri.tgt ≠ none) (hlt : i < k) : reach ops.toList ops.toList.length k i = true := by
  have h1 := allI_ok c.cE k r h
  have e1 : isSm r.tgt = true := by cases hh : r.tgt with | none => exact absurd hh ht | some _ => rfl
  have e2 : isSm ri.tgt = true := by cases hh : ri.tgt with | none => exact absurd hh hti | some _ => rfl
  simp only [Nat.zero_add, e1, Bool.not_true, Bool.false_or] at h1
  have h2 := allI_ok h1 i ri hi
  have e3 : Nat.blt i k = true := Nat.ble_eq_true_of_le hlt
  simpa [e2, e3] using h2
theorem DCtx.loads (c : DCtx τ sp ops st0 al recs) {j i e : Nat} {r re : Rec} (h : recs[j]? = some r) (hl : r.ld = some i) (he : recs[e]? = some re) :
    (re.tgt = some (some i) → (e < j ∧ reach ops.toList ops.toList.length j e = true) ∨ (j < e ∧ reach ops.toList ops.toList.length e j = true)) ∧ (re.al = some i → reach ops.toList ops.toList.length j e = true) := by
  have h1 := allI_ok c.cL j r h
  simp only [Nat.zero_add, hl] at h1
  have h2 := allI_ok h1 e re he
  simp only [Nat.zero_add, Bool.and_eq_true, Bool.or_eq_true, Bool.not_eq_true'] at h2
  refine ⟨fun ht => ?_, fun ha => ?_⟩
  · rcases h2.1 with h3 | h3
    · rw [onBox_ok ht] at h3; cases h3
    · rcases h3 with ⟨a, b⟩ | ⟨a, b⟩
      · exact .inl ⟨Nat.le_of_ble_eq_true a, b⟩
      · exact .inr ⟨Nat.le_of_ble_eq_true a, b⟩
  · rcases h2.2 with h3 | h3
    · rw [eqN_ok ha] at h3; cases h3
    · exact h3
theorem DCtx.stores (c : DCtx τ sp ops st0 al recs) {e i a : Nat} {r ra : Rec} (h : recs[e]? = some r) (ht : r.tgt = some (some i)) (ha : recs[a]? = some ra) (hal : ra.al = some i) : reach ops.toList ops.toList.length e a = true := by
  have h1 := allI_ok c.cS e r h
  simp only [Nat.zero_add, ht] at h1
  have h2 := allI_ok h1 a ra ha
  simp only [Nat.zero_add, Bool.or_eq_true, Bool.not_eq_true'] at h2
  rcases h2 with h3 | h3
  · rw [eqN_ok hal] at h3; cases h3
  · exact h3
theorem DCtx.newb (c : DCtx τ sp ops st0 al recs) {a d : Nat} {ra : Rec} (h : recs[a]? = some ra) (hal : ra.al = some d) : findB st0.bx d = none ∧ noName d st0.sl = true ∧
    ∀ (k : Nat) (rk : Rec) (s : Nat) (x : SV), recs[k]? = some rk → rk.ent = some (s, x) → k = a ∨ x.names d = false ∨ reach ops.toList ops.toList.length k a = true := by
  have h1 := allI_ok c.cA a ra h
  simp only [Nat.zero_add, hal, Bool.and_eq_true] at h1
  obtain ⟨⟨h2, h3⟩, h4⟩ := h1
  refine ⟨isNone_eq h2, h3, fun k rk s x hk he => ?_⟩
  have h5 := allI_ok h4 k rk hk
  simp only [Nat.zero_add, he, Bool.or_eq_true, Bool.not_eq_true'] at h5
  rcases h5 with (h5 | h5) | h5
  · exact .inl (Nat.eq_of_beq_eq_true h5)
  · exact .inr (.inl h5)
  · exact .inr (.inr h5)

/-- An operation that waits for nothing any more: whatever comes surely before it has come up. -/
theorem EInv.before (i : EInv c listed st q) {j k : Nat} {o : Oper} (ho : ops[j]? = some o) (hpre : ∀ e ∈ o.after, Region.binds .any e = true → listed.getD e.on false = true) (h : reach ops.toList ops.toList.length j k = true) : listed.getD k false = true :=
  reach_preds i.closed _ j k h fun o' ho' => by rw [ho] at ho'; obtain rfl := Option.some.inj ho'; exact hpre

theorem EInv.find (i : EInv c listed st q) (hnog : ∀ s x, findB st0.sl s = some x → isG x = false) {j : Nat} {o : Oper} (hj : listed.getD j false = false)
    (hpre : ∀ e ∈ o.after, Region.binds .any e = true → listed.getD e.on false = true) {s : Nat} {y : SV} (hs : findV ops.toList j o (accR (recs.take j) []) st0.sl s = some y) :
    (isG y = false → findB st.sl s = some y ∧ findB st.gl s = none) ∧ (∀ g p z, y = .grd g p z → findB st.gl s = some (g, p, z)) := by
  have hlist : ∀ k, predOf o k = true → listed.getD k false = true := fun k hp => by
    obtain ⟨e, he, h1, h2⟩ := predIn_ok hp
    rw [← h1]; exact hpre e (by simpa using he) h2
  unfold findV at hs
  split at hs
  case h_2 => cases hs
  rename_i hsee
  have hsee' := seesGo_ok ops.toList 0 hsee
  unfold lookD at hs
  split at hs
  · rename_i z hz
    simp only [Option.some.injEq] at hs; subst hs
    rcases accR_find hz with ⟨k, r, hk, he⟩ | h
    · have hkj : k < j ∧ recs[k]? = some r := by
        rw [List.getElem?_take] at hk
        split at hk
        · rename_i hlt; exact ⟨hlt, hk⟩
        · cases hk
      obtain ⟨ok, h1, h2⟩ := c.dst hkj.2 he
      have hl : listed.getD k false = true := by
        rcases hsee' k ok (by simpa using h1) h2 with ⟨_, hp⟩ | ⟨hlt, _⟩
        · exact hlist k (by simpa using hp)
        · omega
      refine ⟨fun hg => ⟨i.done k r s z hkj.2 he hl hg, ?_⟩, fun g p z' e => i.doneG k r s g p z' hkj.2 (by rw [he, e]) hl⟩
      cases hgl : findB st.gl s with
      | none => rfl
      | some e =>
        obtain ⟨g, p, z'⟩ := e
        obtain ⟨k', r', a1, a2, _⟩ := i.glM s g p z' (findB_mem hgl)
        have hkk := c.injE hkj.2 a1 he a2
        subst hkk
        rw [hkj.2] at a1
        obtain rfl := Option.some.inj a1
        rw [he] at a2
        have : z = .grd g p z' := (Prod.mk.inj (Option.some.inj a2)).2
        rw [this] at hg; cases hg
    · cases h
  · rename_i hz
    obtain ⟨hno, _⟩ := accR_none hz
    have key : ∀ (k : Nat) (r : Rec) (x : SV), recs[k]? = some r → r.ent = some (s, x) → listed.getD k false = true → False := fun k r x hk he hl => by
      obtain ⟨ok, h1, h2⟩ := c.dst hk he
      rcases hsee' k ok (by simpa using h1) h2 with ⟨hlt, _⟩ | ⟨hlt, hp⟩
      · exact hno k r x (by rw [List.getElem?_take, if_pos (by omega)]; exact hk) he
      · obtain ⟨e, he', h3, h4⟩ := predIn_ok hp
        have := i.closed k ok h1 hl e (by simpa using he') h4
        rw [h3, hj] at this
        cases this
    have hg0 := hnog s y hs
    refine ⟨fun _ => ⟨by rw [i.old s key]; exact hs, ?_⟩, fun g p z e => by rw [e] at hg0; cases hg0⟩
    cases hgl : findB st.gl s with
    | none => rfl
    | some e =>
      obtain ⟨g, p, z'⟩ := e
      obtain ⟨k', r', a1, a2, a3⟩ := i.glM s g p z' (findB_mem hgl)
      exact (key k' r' _ a1 a2 a3).elim

/-- An operand of an effect, looked up in the text's order, is what the state says. -/
theorem EInv.look (i : EInv c listed st q) (hnog : ∀ s x, findB st0.sl s = some x → isG x = false) {j : Nat} {o : Oper} (hj : listed.getD j false = false)
    (hpre : ∀ e ∈ o.after, Region.binds .any e = true → listed.getD e.on false = true) {x : Operand} {y : SV} (hs : lookF (findV ops.toList j o (accR (recs.take j) []) st0.sl) [] x = some y) : st.look [] x = some y := by
  unfold St.look
  cases x with
  | tmp t =>
    simp only [lookF] at hs ⊢
    cases hf : findV ops.toList j o (accR (recs.take j) []) st0.sl t with
    | none => rw [hf] at hs; cases hs
    | some z =>
      rw [hf] at hs
      have hz := i.find hnog hj hpre hf
      have hg : isG z = false := by
        cases z with
        | grd g p z => simp [unG, hasG] at hs
        | _ => rfl
      obtain ⟨h1, h2⟩ := hz.1 hg
      have hfind : st.find t = some z := by
        unfold St.find
        rw [h2]; exact h1
      rw [hfind]; exact hs
  | const v => exact hs
  | func f => exact hs
  | global g => exact hs

/-- Where the memory stands, seen from an effect that comes up. -/
theorem EInv.at_eff (i : EInv c listed st q) {j : Nat} {o : Oper} {r : Rec} (ho : ops[j]? = some o) (hr : recs[j]? = some r) (ht : r.tgt ≠ none) (hj : listed.getD j false = false)
    (hpre : ∀ e ∈ o.after, Region.binds .any e = true → listed.getD e.on false = true) : q ≤ j ∧ memAt c.m0 recs j = memAt c.m0 recs q := by
  have hq : q ≤ j := by
    rcases Nat.lt_or_ge j q with h | h
    · have := i.q1 j r hr ht h
      rw [hj] at this; cases this
    · exact h
  refine ⟨hq, c.mem_const hq fun k rk h1 h2 hk => ?_⟩
  cases htk : rk.tgt with
  | none => rfl
  | some t =>
    have a := i.q2 k rk hk (by rw [htk]; exact fun e => by cases e) h1
    have b := i.before ho hpre (c.chain hr hk ht (by rw [htk]; exact fun e => by cases e) h2)
    rw [a] at b; cases b

/-- The content of a box, seen from a load that comes up. -/
theorem EInv.at_load (i : EInv c listed st q) {j b : Nat} {o : Oper} {r : Rec} (ho : ops[j]? = some o) (hr : recs[j]? = some r) (ht : r.tgt = none) (hl : r.ld = some b) (hj : listed.getD j false = false)
    (hpre : ∀ e ∈ o.after, Region.binds .any e = true → listed.getD e.on false = true) : findB st.bx b = findB (memAt c.m0 recs j).bx b := by
  rw [i.bx1 b fun a ra ha hal => i.before ho hpre ((c.loads hr hl ha).2 hal)]
  rcases Nat.le_total q j with h | h
  · refine (c.box_const h fun k rk h1 h2 hk htk => ?_).symm
    have a := i.q2 k rk hk (by rw [htk]; exact fun e => by cases e) h1
    rcases (c.loads hr hl hk).1 htk with ⟨_, hre⟩ | ⟨hlt, _⟩
    · have b := i.before ho hpre hre
      rw [a] at b; cases b
    · omega
  · refine c.box_const h fun k rk h1 h2 hk htk => ?_
    rcases (c.loads hr hl hk).1 htk with ⟨hlt, _⟩ | ⟨hlt, hre⟩
    · omega
    · have a := i.q1 k rk hk (by rw [htk]; exact fun e => by cases e) h2
      have b := reach_listed i.closed hre a
      rw [hj] at b; cases b

theorem DCtx.own_ent (c : DCtx τ sp ops st0 al recs) {k : Nat} {r : Rec} {s : Nat} {x : SV} (h : recs[k]? = some r) (he : r.ent = some (s, x)) :
    (r.tgt = some none ∧ x = .own (memAt c.m0 recs k).nx ∧ (memAt c.m0 recs (k + 1)).nx = (memAt c.m0 recs k).nx + 1) ∨ (ownLt (memAt c.m0 recs k).nx x = true ∧ (ownLt st0.nx x = true ∨
      ∀ (e : Nat) (re : Rec), recs[e]? = some re → re.tgt = some none → e < k → reach ops.toList ops.toList.length k e = true)) := by
  have h1 := allI_ok c.cO k r h
  simp only [Nat.zero_add, he, Bool.or_eq_true, Bool.and_eq_true] at h1
  rcases h1 with h1 | ⟨h1, h2⟩
  · have ht : r.tgt = some none := by
      unfold isApT at h1
      split at h1
      · assumption
      · cases h1
    refine .inl ⟨ht, ?_⟩
    obtain ⟨o, g1, g2, g3⟩ := c.op_of h
    have hpure : ∀ {r : Rec}, dPure τ sp ops k o (accR (recs.take k) []) st0.sl (memAt c.m0 recs k) = some r → r.tgt = none := fun h => by
      unfold dPure at h
      split at h
      · simp only [Option.some.injEq] at h; subst h; rfl
      · cases h
    rw [g3]
    unfold dOp at g2
    split at g2
    · split at g2
      · simp only [Option.some.injEq] at g2; subst g2; cases ht
      · cases g2
    · cases g2
    · split at g2
      · split at g2
        · split at g2
          · simp only [Option.some.injEq] at g2; subst g2; cases ht
          · cases g2
        · cases g2
      · cases g2
    · split at g2
      · unfold dApp at g2
        split at g2
        · split at g2
          · split at g2
            · rename_i ps st' happ
              simp only [Option.some.injEq] at g2; subst g2
              refine ⟨(Prod.mk.inj (Option.some.inj he)).2.symm, ?_⟩
              unfold St.append at happ
              split at happ
              case h_2 => cases happ
              split at happ
              case h_2 => cases happ
              split at happ
              case h_2 => cases happ
              split at happ
              case h_2 => cases happ
              split at happ
              case h_2 => cases happ
              simp only [Option.some.injEq, Prod.mk.injEq] at happ
              rw [← happ.2]
            · cases g2
          · cases g2
        · cases g2
      · rw [hpure g2] at ht; cases ht
    · rw [hpure g2] at ht; cases ht
  · refine .inr ⟨h1, ?_⟩
    rcases h2 with h2 | h2
    · exact .inl h2
    · refine .inr fun e re hre hte hlt => ?_
      have h3 := allI_ok h2 e re hre
      have e3 : Nat.blt e k = true := Nat.ble_eq_true_of_le hlt
      simp only [Nat.zero_add, hte, isApT, e3, Bool.and_self, Bool.not_true, Bool.false_or] at h3
      exact h3

theorem DCtx.nx_const' (c : DCtx τ sp ops st0 al recs) {a : Nat} : ∀ {b : Nat}, a ≤ b → (∀ (k : Nat) (r : Rec), a ≤ k → k < b → recs[k]? = some r → r.tgt ≠ some none) → (memAt c.m0 recs b).nx = (memAt c.m0 recs a).nx
  | 0, h, _ => by rw [show a = 0 by omega]
  | b + 1, h, hn => by
    rcases Nat.eq_or_lt_of_le h with rfl | h
    · rfl
    · rw [← c.nx_const' (b := b) (by omega) fun k r h1 h2 => hn k r h1 (by omega)]
      exact c.nx_const fun r hr => hn b r (by omega) (by omega) hr

/-- Every row that an entry names is there. -/
theorem EInv.own_ent (i : EInv c listed st q) {k : Nat} {r : Rec} {s : Nat} {x : SV} (h : recs[k]? = some r) (he : r.ent = some (s, x)) (hl : listed.getD k false = true) : ownLt st.nx x = true := by
  rw [i.nx]
  rcases c.own_ent h he with ⟨ht, rfl, hn⟩ | ⟨h1, h2⟩
  · have hkq : k < q := by
      rcases Nat.lt_or_ge k q with h' | h'
      · exact h'
      · have := i.q2 k r h (by rw [ht]; exact fun e => by cases e) h'
        rw [hl] at this; cases this
    have := c.nx_mono (a := k + 1) (b := q) hkq
    exact Nat.ble_eq_true_of_le (by omega)
  · rcases h2 with h2 | h2
    · refine ownLt_mono ?_ h2
      have := c.nx_mono (a := 0) (b := q) (Nat.zero_le q)
      have e0 : (memAt c.m0 recs 0).nx = st0.nx := by cases recs <;> rfl
      omega
    · refine ownLt_mono ?_ h1
      rcases Nat.le_total k q with h' | h'
      · exact c.nx_mono h'
      · refine Nat.le_of_eq (c.nx_const' h' fun e re a1 a2 hre hte => ?_)
        have b1 := i.q2 e re hre (by rw [hte]; exact fun e => by cases e) a1
        have b2 := reach_listed i.closed (h2 e re hre hte a2) hl
        rw [b1] at b2; cases b2
theorem EInv.own_sl (i : EInv c listed st q) {s : Nat} {x : SV} (h : (s, x) ∈ st.sl) : ownLt st.nx x = true := by
  rcases i.slM s x h with h | ⟨k, r, h1, h2, h3⟩
  · refine ownLt_mono ?_ (ownLtS_mem c.osl h)
    rw [i.nx]
    have := c.nx_mono (a := 0) (b := q) (Nat.zero_le q)
    have e0 : (memAt c.m0 recs 0).nx = st0.nx := by cases recs <;> rfl
    omega
  · exact i.own_ent h1 h2 h3
theorem EInv.own_gl (i : EInv c listed st q) {s g : Nat} {p : Bool} {x : SV} (h : (s, g, p, x) ∈ st.gl) : ownLt st.nx x = true := by
  obtain ⟨k, r, h1, h2, h3⟩ := i.glM s g p x h
  exact i.own_ent (x := .grd g p x) h1 h2 h3

/-- The slot of an operation that has not come up is guarded by nobody and guards nobody. -/
theorem EInv.slot_free (i : EInv c listed st q) {j d : Nat} {o : Oper} (ho : ops[j]? = some o) (hd : o.dst = some d) (hj : listed.getD j false = false) : findB st.gl d = none ∧ noGuard d st.gl = true := by
  refine ⟨?_, noGuard_of fun s g p x hm hgd => ?_⟩
  · cases hgl : findB st.gl d with
    | none => rfl
    | some e =>
      obtain ⟨g, p, z⟩ := e
      obtain ⟨k, r, h1, h2, h3⟩ := i.glM d g p z (findB_mem hgl)
      obtain ⟨ok, a, b⟩ := c.dst h1 h2
      have := c.inj a ho b hd
      rw [this, hj] at h3; cases h3
  · obtain ⟨k, r, h1, h2, h3⟩ := i.glM s g p x hm
    obtain ⟨ok, g1, g2, _⟩ := c.op_of h1
    have hpure : ∀ {r : Rec}, dPure τ sp ops k ok (accR (recs.take k) []) st0.sl (memAt c.m0 recs k) = some r → r.ent = some (s, .grd g p x) → ∃ m, ok.guard = some (m, p) ∧ dstOf ops m = some g := fun h he => by
      unfold dPure at h
      split at h
      · rename_i d' ps y hd' hs
        simp only [Option.some.injEq] at h; subst h
        have : y = .grd g p x := (Prod.mk.inj (Option.some.inj he)).2
        rw [this] at hs
        exact stepV_grd hs
      · cases h
    have hgrd : ∃ m, ok.guard = some (m, p) ∧ dstOf ops m = some g := by
      unfold dOp at g2
      split at g2
      · split at g2
        · simp only [Option.some.injEq] at g2; subst g2; cases h2
        · cases g2
      · cases g2
      · split at g2
        · split at g2
          · split at g2
            · simp only [Option.some.injEq] at g2; subst g2; cases h2
            · cases g2
          · cases g2
        · cases g2
      · split at g2
        · unfold dApp at g2
          split at g2
          · split at g2
            · split at g2
              · simp only [Option.some.injEq] at g2; subst g2; cases h2
              · cases g2
            · cases g2
          · cases g2
        · exact hpure g2 h2
      · exact hpure g2 h2
    obtain ⟨m, e1, e2⟩ := hgrd
    obtain ⟨ok', a, b⟩ := c.dst h1 h2
    rw [g1] at a
    obtain rfl := Option.some.inj a
    obtain ⟨_, _, _, hp⟩ := (drawOKe_ok ops.toList 0 [] c.ok k ok (by simpa using g1)).2 s b
    obtain ⟨e, he, f1, f2⟩ := predIn_ok (hp m p e1)
    have hm := i.closed k ok g1 h3 e (by simpa using he) f2
    rw [f1] at hm
    unfold dstOf at e2
    cases hom : ops[m]? with
    | none => rw [hom] at e2; cases e2
    | some om =>
      rw [hom] at e2
      have := c.inj hom ho (by simpa [hgd] using e2) hd
      rw [this, hj] at hm; cases hm
end
end Go.Sim

namespace Go.Sim
open Go.RowKit (Below)

section
variable {P : Program} {τ : Tab} [TabOk P τ] {sp : Spec} {ops : Array Oper} {st0 : St} {al : List (Nat × TypeId × List SV)} {recs : List Rec}
variable {c : DCtx τ sp ops st0 al recs} {listed : Array Bool} {st : St} {q : Nat}

/-- One operation more has come up. -/
theorem EInv.next (i : EInv c listed st q) {j : Nat} {o : Oper} {r : Rec} (ho : ops[j]? = some o) (hr : recs[j]? = some r) (hj : listed.getD j false = false)
    (hpre : ∀ e ∈ o.after, Region.binds .any e = true → listed.getD e.on false = true) {st' : St} {q' : Nat} (hn : st'.n = st.n)
    (hent : (∃ d x, r.ent = some (d, x) ∧ isG x = false ∧ st'.sl = (d, x) :: st.sl ∧ st'.gl = st.gl) ∨ (∃ d g p y, r.ent = some (d, .grd g p y) ∧ st'.sl = st.sl ∧ st'.gl = (d, g, p, y) :: st.gl) ∨ (r.ent = none ∧ st'.sl = st.sl ∧ st'.gl = st.gl))
    (hq : (r.tgt = none ∧ q' = q) ∨ (r.tgt ≠ none ∧ q' = j + 1))
    (hb1 : ∀ b : Nat, (∀ (a : Nat) (ra : Rec), recs[a]? = some ra → ra.al = some b → (listed.setIfInBounds j true).getD a false = true) → findB st'.bx b = findB (memAt c.m0 recs q').bx b)
    (hb2 : ∀ (b a : Nat) (ra : Rec), recs[a]? = some ra → ra.al = some b → (listed.setIfInBounds j true).getD a false = false → findB st'.bx b = none)
    (hbP : plainB st'.nx st'.bx = true) (how : st'.ow = (memAt c.m0 recs q').ow) (hnx : st'.nx = (memAt c.m0 recs q').nx) : EInv c (listed.setIfInBounds j true) st' q' := by
  have hjlt : j < ops.size := (Array.getElem?_eq_some_iff.1 ho).1
  have hself : (listed.setIfInBounds j true).getD j false = true := by simp [Array.getD, i.size', hjlt]
  have hset : ∀ k, (listed.setIfInBounds j true).getD k false = true → k = j ∨ listed.getD k false = true := fun k hk => by
    by_cases e : k = j
    · exact .inl e
    · rw [listed_set e] at hk; exact .inr hk
  have hup : ∀ k, listed.getD k false = true → (listed.setIfInBounds j true).getD k false = true := fun k hk => by
    by_cases e : k = j
    · rw [e]; exact hself
    · rw [listed_set e]; exact hk
  refine ⟨by simp [i.size'], fun k ok hk hl e he hb => ?_, fun e re he ht hlt => ?_, fun e re he ht hle => ?_, by rw [hn]; exact i.n, fun k rk d x hk he hl hg => ?_, fun k rk d g p y hk he hl => ?_, fun s hs => ?_, fun s x hm => ?_, fun s g p y hm => ?_, hb1, hb2, hbP, how, hnx⟩
  · rcases hset k hl with rfl | hl
    · rw [ho] at hk; obtain rfl := Option.some.inj hk
      exact hup _ (hpre e he hb)
    · exact hup _ (i.closed k ok hk hl e he hb)
  · rcases hq with ⟨h1, rfl⟩ | ⟨h1, rfl⟩
    · exact hup _ (i.q1 e re he ht hlt)
    · rcases Nat.lt_or_ge e j with h2 | h2
      · exact hup _ (i.before ho hpre (c.chain hr he h1 ht h2))
      · rw [show e = j by omega]; exact hself
  · have hne : e ≠ j := fun e' => by
      subst e'
      rcases hq with ⟨h1, _⟩ | ⟨_, rfl⟩
      · rw [hr] at he; obtain rfl := Option.some.inj he; exact ht h1
      · omega
    rw [listed_set hne]
    rcases hq with ⟨h1, rfl⟩ | ⟨h1, rfl⟩
    · exact i.q2 e re he ht hle
    · refine boolF fun hl => ?_
      have := reach_listed i.closed (c.chain he hr ht h1 (by omega)) hl
      rw [hj] at this; cases this
  · rcases hset k hl with rfl | hl
    · rw [hr] at hk; obtain rfl := Option.some.inj hk
      rcases hent with ⟨d', x', h1, h2, h3, h4⟩ | ⟨d', g', p', y', h1, h2, h3⟩ | ⟨h1, _, _⟩
      · rw [h1] at he
        obtain ⟨rfl, rfl⟩ := Prod.mk.inj (Option.some.inj he)
        rw [h3, findB_cons, if_pos rfl]
      · rw [h1] at he
        obtain ⟨rfl, rfl⟩ := Prod.mk.inj (Option.some.inj he)
        cases hg
      · rw [h1] at he; cases he
    · have hd := i.done k rk d x hk he hl hg
      rcases hent with ⟨d', x', h1, h2, h3, h4⟩ | ⟨d', g', p', y', h1, h2, h3⟩ | ⟨h1, h2, _⟩
      · rw [h3, findB_cons, if_neg]
        · exact hd
        · intro e
          subst e
          have := c.injE hk hr he h1
          rw [this, hj] at hl; cases hl
      · rw [h2]; exact hd
      · rw [h2]; exact hd
  · rcases hset k hl with rfl | hl
    · rw [hr] at hk; obtain rfl := Option.some.inj hk
      rcases hent with ⟨d', x', h1, h2, h3, h4⟩ | ⟨d', g', p', y', h1, h2, h3⟩ | ⟨h1, _, _⟩
      · rw [h1] at he
        obtain ⟨rfl, rfl⟩ := Prod.mk.inj (Option.some.inj he)
        cases h2
      · rw [h1] at he
        obtain ⟨rfl, e2⟩ := Prod.mk.inj (Option.some.inj he)
        obtain ⟨rfl, rfl, rfl⟩ := SV.grd.inj e2
        rw [h3, findB_cons, if_pos rfl]
      · rw [h1] at he; cases he
    · have hd := i.doneG k rk d g p y hk he hl
      rcases hent with ⟨d', x', h1, h2, h3, h4⟩ | ⟨d', g', p', y', h1, h2, h3⟩ | ⟨h1, _, h2⟩
      · rw [h4]; exact hd
      · rw [h3, findB_cons, if_neg]
        · exact hd
        · intro e
          subst e
          have := c.injE hk hr he h1
          rw [this, hj] at hl; cases hl
      · rw [h2]; exact hd
  · have hold := i.old s fun k rk x hk he hl => hs k rk x hk he (hup k hl)
    rcases hent with ⟨d', x', h1, h2, h3, h4⟩ | ⟨d', g', p', y', h1, h2, h3⟩ | ⟨h1, h2, _⟩
    · rw [h3, findB_cons, if_neg]
      · exact hold
      · intro e
        subst e
        exact hs j r x' hr h1 hself
    · rw [h2]; exact hold
    · rw [h2]; exact hold
  · have lift : (s, x) ∈ st.sl → (s, x) ∈ st0.sl ∨ ∃ (k : Nat) (r : Rec), recs[k]? = some r ∧ r.ent = some (s, x) ∧ (listed.setIfInBounds j true).getD k false = true := fun hm => by
      rcases i.slM s x hm with h | ⟨k, rk, a1, a2, a3⟩
      · exact .inl h
      · exact .inr ⟨k, rk, a1, a2, hup k a3⟩
    rcases hent with ⟨d', x', h1, h2, h3, h4⟩ | ⟨d', g', p', y', h1, h2, h3⟩ | ⟨h1, h2, _⟩
    · rw [h3] at hm
      rcases List.mem_cons.1 hm with hm | hm
      · obtain ⟨rfl, rfl⟩ := Prod.mk.inj hm
        exact .inr ⟨j, r, hr, h1, hself⟩
      · exact lift hm
    · rw [h2] at hm; exact lift hm
    · rw [h2] at hm; exact lift hm
  · have lift : (s, g, p, y) ∈ st.gl → ∃ (k : Nat) (r : Rec), recs[k]? = some r ∧ r.ent = some (s, .grd g p y) ∧ (listed.setIfInBounds j true).getD k false = true := fun hm => by
      obtain ⟨k, rk, a1, a2, a3⟩ := i.glM s g p y hm
      exact ⟨k, rk, a1, a2, hup k a3⟩
    rcases hent with ⟨d', x', h1, h2, h3, h4⟩ | ⟨d', g', p', y', h1, h2, h3⟩ | ⟨h1, _, h2⟩
    · rw [h4] at hm; exact lift hm
    · rw [h3] at hm
      rcases List.mem_cons.1 hm with hm | hm
      · simp only [Prod.mk.injEq] at hm
        obtain ⟨rfl, rfl, rfl, rfl⟩ := hm
        exact ⟨j, r, hr, h1, hself⟩
      · exact lift hm
    · rw [h2] at hm; exact lift hm

variable {W : World} {N0 F : Nat → Prop}
/-- What stands while operations come up. -/
def DNow (c : DCtx τ sp ops st0 al recs) (W : World) (N0 F : Nat → Prop) (listed : Array Bool) (a : Act) (w : World) : Prop := ∃ st q β, Rel W N0 F st β a w ∧ EInv c listed st q

theorem wpOp_of {ops : Array Oper} {j : Nat} {o : Oper} (ho : ops[j]? = some o) {K : Act → World → Prop} {Q : Exit → Act → World → Prop} {a : Act} {w : World}
    (h : if Region.wanted o (yielded ops a.tmps) then o.wp P a w K Q else K (a.put o.dst undef) w) : wpOp P ops Q j K a w := by
  unfold wpOp
  simp only [ho]
  split
  · rename_i hw; rw [if_pos hw] at h; exact .inl h
  · rename_i hw; rw [if_neg hw] at h; exact h

/-- An operation without effects. -/
theorem step_pure (hsp : SpecOk P sp) (hnog : ∀ s x, findB st0.sl s = some x → isG x = false) (i : EInv c listed st q) {β : Envr} {a : Act} {w : World} (hrel : Rel W N0 F st β a w) {j : Nat} {o : Oper} {r : Rec} (ho : ops[j]? = some o) (hr : recs[j]? = some r)
    (hj : listed.getD j false = false) (hpre : ∀ e ∈ o.after, Region.binds .any e = true → listed.getD e.on false = true) (h : dPure τ sp ops j o (accR (recs.take j) []) st0.sl (memAt c.m0 recs j) = some r)
    {K : Act → World → Prop} {Q : Exit → Act → World → Prop} (hK : ∀ a' w', DNow c W N0 F (listed.setIfInBounds j true) a' w' → K a' w') : wpOp P ops Q j K a w := by
  unfold dPure at h
  split at h
  case h_2 => cases h
  rename_i d ps x hd hs
  simp only [Option.some.injEq] at h; subst h
  obtain ⟨hback, hdd⟩ := drawOKe_ok ops.toList 0 [] c.ok j o (by simpa using ho)
  obtain ⟨hdn, _, hdu, hdg⟩ := hdd d hd
  obtain ⟨hgl, hng⟩ := i.slot_free ho hd hj
  have hbx : BoxOk β (NB N0 β st.bx st.ow) w (ldBx (memAt c.m0 recs j) (ldOf o (accR (recs.take j) []) st0.sl)) := by
    cases hl : ldOf o (accR (recs.take j) []) st0.sl with
    | none => intro b T cs hf; cases hf
    | some b0 =>
      intro b T cs hf
      simp only [ldBx] at hf
      have hat := i.at_load ho hr rfl hl hj hpre
      cases hm : findB (memAt c.m0 recs j).bx b0 with
      | none => rw [hm] at hf; cases hf
      | some cc =>
        rw [hm] at hf
        simp only [findB_cons] at hf
        split at hf
        · rename_i e
          obtain rfl := Option.some.inj hf
          rw [e]
          exact hrel.boxes b0 T cs (by rw [hat, hm])
        · cases hf
  have hfind : ∀ s y, findV ops.toList j o (accR (recs.take j) []) st0.sl s = some y → SlotOk β (NB N0 β st.bx st.ow) a w s y := fun s y hy => by
    obtain ⟨h1, h2⟩ := i.find hnog hj hpre hy
    cases hg : isG y with
    | false => exact SlotOk.of_den (hrel.slots s y (h1 hg).1)
    | true =>
      cases y with
      | grd g p z => exact hrel.guards s g p z (h2 g p z rfl)
      | d x => cases hg
      | loc i o => cases hg
      | elem => cases hg
      | tup => cases hg
      | own => cases hg
  have hself : ∀ m p s, o.guard = some (m, p) → dstOf ops m = some s → s ≠ d := fun m p s hg hm e => by
    subst e
    obtain ⟨e, he, h1, h2⟩ := predIn_ok (hdg m p hg)
    have hlt := hback e (by simpa using he) h2
    unfold dstOf at hm
    cases hom : ops[m]? with
    | none => rw [hom] at hm; cases hm
    | some om =>
      rw [hom] at hm
      have := c.inj hom ho (by simpa using hm) hd
      omega
  have hps : ∀ p ∈ ps, p := c.ps j _ hr
  have hsize : d < a.tmps.size := by rw [hrel.size, i.n]; exact hdn
  have hgive := stepV_ok (β := β) hsp hrel.NB_lt hbx hfind hs hps hd hsize hself
  refine wpOp_of ho (hgive K Q fun v w' hv hbl => hK _ _ ?_)
  have hrel' := hrel.below hbl
  have hb1 : ∀ b : Nat, (∀ (a : Nat) (ra : Rec), recs[a]? = some ra → ra.al = some b → (listed.setIfInBounds j true).getD a false = true) → findB st.bx b = findB (memAt c.m0 recs q).bx b := fun b hb => i.bx1 b fun a ra ha hal => by
    have := hb a ra ha hal
    by_cases e : a = j
    · subst e
      rw [hr] at ha; obtain rfl := Option.some.inj ha; cases hal
    · rwa [listed_set e] at this
  have hb2 : ∀ (b a : Nat) (ra : Rec), recs[a]? = some ra → ra.al = some b → (listed.setIfInBounds j true).getD a false = false → findB st.bx b = none := fun b a ra ha hal hl => i.bx2 b a ra ha hal (by
    by_cases e : a = j
    · subst e; exact hj
    · rwa [listed_set e] at hl)
  cases hg : isG x with
  | false =>
    have hput : st.put d x = some ⟨st.n, (d, x) :: st.sl, st.gl, st.bx, st.ow, st.nx⟩ := by
      unfold St.put
      rw [hgl, hng, show Nat.blt d st.n = true from Nat.ble_eq_true_of_le (by rw [i.n]; exact hdn)]
      rfl
    have hden := hv.den hg
    rw [tv_put_same hsize] at hden
    exact ⟨_, q, β, hrel'.put hput hden, i.next ho hr hj hpre (st' := ⟨st.n, (d, x) :: st.sl, st.gl, st.bx, st.ow, st.nx⟩) rfl (.inl ⟨d, x, rfl, hg, rfl, rfl⟩) (.inl ⟨rfl, rfl⟩) hb1 hb2 i.bxP i.ow i.nx⟩
  | true =>
    cases x with
    | grd g p y =>
      have hsl : findB st.sl d = none := by
        have h0 : findB st0.sl d = none := by
          have := allI_ok c.cG j _ hr
          simp only [isG, Bool.not_true, Bool.false_or] at this
          exact isNone_eq this
        cases hf : findB st.sl d with
        | none => rfl
        | some z =>
          rcases i.slM d z (findB_mem hf) with h | ⟨k, rk, h1, h2, h3⟩
          · exact absurd h (findB_none_mem h0)
          · have := c.injE h1 hr h2 rfl
            rw [this, hj] at h3; cases h3
      obtain ⟨m, hm1, hm2⟩ := stepV_grd hs
      have hne : d ≠ g := Ne.symm (hself m p g hm1 hm2)
      have hput : st.putG d g p y = some ⟨st.n, st.sl, (d, g, p, y) :: st.gl, st.bx, st.ow, st.nx⟩ := by
        unfold St.putG
        have e1 : Nat.beq d g = false := by
          cases hb : Nat.beq d g with
          | false => rfl
          | true => exact absurd (Nat.eq_of_beq_eq_true hb) hne
        rw [hsl, hng, e1, show Nat.blt d st.n = true from Nat.ble_eq_true_of_le (by rw [i.n]; exact hdn)]
        rfl
      exact ⟨_, q, β, hrel'.putG hput hv, i.next ho hr hj hpre (st' := ⟨st.n, st.sl, (d, g, p, y) :: st.gl, st.bx, st.ow, st.nx⟩) rfl (.inr (.inl ⟨d, g, p, y, rfl, rfl, rfl⟩)) (.inl ⟨rfl, rfl⟩) hb1 hb2 i.bxP i.ow i.nx⟩
    | d x => cases hg
    | loc i o => cases hg
    | elem => cases hg
    | tup => cases hg
    | own => cases hg
end
end Go.Sim

namespace Go.Sim
open Go.RowKit (Below)

theorem allocs_find {τ : Tab} {d : Nat} {T : TypeId} : ∀ (l : List Oper) (al : List (Nat × TypeId × List SV)), allocsOf τ l = some al → ∀ (k : Nat) (o : Oper), l[k]? = some o → o.op = .alloc T → o.dst = some d →
    (∀ (k' : Nat) (o' : Oper), l[k']? = some o' → o'.dst = some d → k' = k) → ∃ rz, zeroOf τ T = some rz ∧ (oneR rz || isAggR rz) = true ∧ allOne rz.cells = true ∧ findB al d = some (T, rz.cells.map .d)
  | [], al, h, k, o, hk, _, _, _ => by simp at hk
  | o' :: l, al, h, k, o, hk, hop, hd, hu => by
    cases k with
    | zero =>
      simp at hk; subst hk
      simp only [allocsOf, hop, hd] at h
      split at h
      · rename_i d' rz q hd' hz hq
        obtain rfl := Option.some.inj hd'
        split at h
        · rename_i hc
          simp only [Option.some.injEq] at h; subst h
          simp only [Bool.and_eq_true] at hc
          exact ⟨rz, hz, hc.1, hc.2, by rw [findB_cons, if_pos rfl]⟩
        · cases h
      · cases h
    | succ k =>
      have hne : o'.dst ≠ some d := fun e => by have := hu 0 o' rfl e; omega
      have hu' : ∀ (k' : Nat) (o'' : Oper), l[k']? = some o'' → o''.dst = some d → k' = k := fun k' o'' h1 h2 => by
        have := hu (k' + 1) o'' (by simpa using h1) h2; omega
      have hk' : l[k]? = some o := by simpa using hk
      simp only [allocsOf] at h
      split at h
      · split at h
        · rename_i d' rz q hd' hz hq
          split at h
          · simp only [Option.some.injEq] at h; subst h
            rw [findB_cons, if_neg (fun e => hne (by rw [hd', e]))]
            exact allocs_find l q hq k o hk' hop hd hu'
          · cases h
        · cases h
      · exact allocs_find l al h k o hk' hop hd hu'
theorem allocs_none {τ : Tab} {d : Nat} : ∀ (l : List Oper) (al : List (Nat × TypeId × List SV)), allocsOf τ l = some al → (∀ (k : Nat) (o : Oper) (T : TypeId), l[k]? = some o → o.op = .alloc T → o.dst ≠ some d) → findB al d = none
  | [], al, h, _ => by simp [allocsOf] at h; subst h; rfl
  | o :: l, al, h, hn => by
    have hn' : ∀ (k : Nat) (o' : Oper) (T : TypeId), l[k]? = some o' → o'.op = .alloc T → o'.dst ≠ some d := fun k o' T hk => hn (k + 1) o' T (by simpa using hk)
    simp only [allocsOf] at h
    split at h
    · rename_i T hop
      split at h
      · rename_i d' rz q hd' hz hq
        split at h
        · simp only [Option.some.injEq] at h; subst h
          rw [findB_cons, if_neg (fun e => hn 0 o T rfl hop (by rw [hd', e]))]
          exact allocs_none l q hq hn'
        · cases h
      · cases h
    · exact allocs_none l al h hn'
theorem plainCs_map (n : Nat) : ∀ l : List RV, plainCs n (l.map .d) = true
  | [] => rfl
  | x :: l => by simp only [List.map_cons, plainCs, plainC, Bool.true_and]; exact plainCs_map n l

theorem append_dyn {τ : Tab} {n d T : Nat} {s t : SV} {ow : List (Nat × Own)} {nx : Nat} {ps : List Prop} {st' : St} (h : St.append τ ⟨n, [], [], [], ow, nx⟩ d T s t = some (ps, st')) {st : St} (h1 : st.n = n) (how : st.ow = ow) (hnx : st.nx = nx)
    (hg : findB st.gl d = none) (hng : noGuard d st.gl = true) (ho : noO st.nx st.sl = true) (hog : noOG st.nx st.gl = true) (hob : noOB st.nx st.bx = true) :
    st.append τ d T s t = some (ps, ⟨st.n, (d, .own st.nx) :: st.sl, st.gl, st.bx, st'.ow, st'.nx⟩) := by
  unfold St.append at h ⊢
  split at h
  case h_2 => cases h
  rename_i e hT
  split at h
  case h_2 => cases h
  rename_i i d' hfe
  split at h
  case h_2 => cases h
  rename_i z hz
  split at h
  case h_2 => cases h
  rename_i hcond
  split at h
  case h_2 => cases h
  rename_i id n' f m g hown hmore
  simp only [Option.some.injEq, Prod.mk.injEq] at h
  obtain ⟨rfl, rfl⟩ := h
  simp only [Bool.and_eq_true] at hcond
  obtain ⟨⟨⟨⟨⟨⟨⟨⟨c1, c2⟩, c3⟩, c4⟩, c5⟩, c6⟩, c7⟩, c8⟩, c9⟩ := hcond
  have hown' : ownOf st e i.size s = some (id, n', f) := by
    rw [← hown]
    unfold ownOf
    rw [how]
  rw [h1, hg, hng, ho, hog, hob, c1, c2, c3, c4]
  simp only [isNone, Bool.and_self, hown', hmore, how, hnx]

section
variable {P : Program} {τ : Tab} [TabOk P τ] {sp : Spec} {ops : Array Oper} {st0 : St} {al : List (Nat × TypeId × List SV)} {recs : List Rec}
variable {c : DCtx τ sp ops st0 al recs} {listed : Array Bool} {st : St} {q : Nat} {W : World} {N0 F : Nat → Prop}

theorem DCtx.al_dst (c : DCtx τ sp ops st0 al recs) {a d : Nat} {r : Rec} (h : recs[a]? = some r) (ha : r.al = some d) : ∃ o T, ops[a]? = some o ∧ o.op = .alloc T ∧ o.dst = some d ∧ r.tgt = none := by
  obtain ⟨o, h1, h2, _⟩ := c.op_of h
  obtain ⟨T, d', e1, e2, _, e4⟩ := (dOp_dst h2).2 (by rw [ha]; rfl)
  rw [e4] at ha
  obtain rfl := Option.some.inj ha
  exact ⟨o, T, h1, e1, e2, by rw [e4]⟩

theorem step_op (hsp : SpecOk P sp) (hnog : ∀ s x, findB st0.sl s = some x → isG x = false) (i : EInv c listed st q) {β : Envr} {a : Act} {w : World} (hrel : Rel W N0 F st β a w) {j : Nat} {o : Oper} (ho : ops[j]? = some o)
    (hj : listed.getD j false = false) (hpre : ∀ e ∈ o.after, Region.binds .any e = true → listed.getD e.on false = true)
    {K : Act → World → Prop} {Q : Exit → Act → World → Prop} (hK : ∀ a' w', DNow c W N0 F (listed.setIfInBounds j true) a' w' → K a' w') : wpOp P ops Q j K a w := by
  obtain ⟨r, hr, h, hpost⟩ := c.spec j o ho
  have hjlt : j < ops.size := (Array.getElem?_eq_some_iff.1 ho).1
  have hself : (listed.setIfInBounds j true).getD j false = true := by simp [Array.getD, i.size', hjlt]
  have h0 := h
  unfold dOp at h
  split at h
  · -- alloc
    rename_i T hop
    split at h
    case h_2 => cases h
    rename_i d hd hgd
    simp only [Option.some.injEq] at h
    have hu : ∀ (k' : Nat) (o' : Oper), ops.toList[k']? = some o' → o'.dst = some d → k' = j := fun k' o' h1 h2 => c.inj (by simpa using h1) ho h2 hd
    obtain ⟨rz, z1, z2, z3, z4⟩ := allocs_find ops.toList al c.allocs j o (by simpa using ho) hop hd hu
    obtain ⟨hgl, hng⟩ := i.slot_free ho hd hj
    have hal : r.al = some d := by rw [← h]
    obtain ⟨n1, n2, n3⟩ := c.newb hr hal
    have hnm : ∀ {k s : Nat} {rk : Rec} {x : SV}, recs[k]? = some rk → rk.ent = some (s, x) → listed.getD k false = true → x.names d = false := fun {k s rk x} hk he hl => by
      rcases n3 k rk s x hk he with rfl | h | h
      · rw [hj] at hl; cases hl
      · exact h
      · have := reach_listed i.closed h hl
        rw [hj] at this; cases this
    have hbd : findB st.bx d = none := i.bx2 d j r hr hal hj
    have hdn : d < st.n := by rw [i.n]; exact ((drawOKe_ok ops.toList 0 [] c.ok j o (by simpa using ho)).2 d hd).1
    have hnew : st.newBox d T rz.cells = some ⟨st.n, (d, .loc d 0) :: st.sl, st.gl, (d, T, rz.cells.map .d) :: st.bx, st.ow, st.nx⟩ := by
      unfold St.newBox
      rw [hbd, hgl, hng, z3, plainB_noName i.bxP, show Nat.blt d st.n = true from Nat.ble_eq_true_of_le hdn,
        noName_of (fun s x hm => by
          rcases i.slM s x hm with h | ⟨k, rk, h1, h2, h3⟩
          · exact noName_mem n2 h
          · exact hnm h1 h2 h3),
        noNameG_of (fun s g p x hm => by
          obtain ⟨k, rk, h1, h2, h3⟩ := i.glM s g p x hm
          have := hnm h1 h2 h3
          simpa [SV.names] using this)]
      rfl
    have heff : eff τ st o = some ([], ⟨st.n, (d, .loc d 0) :: st.sl, st.gl, (d, T, rz.cells.map .d) :: st.bx, st.ow, st.nx⟩) := by
      unfold eff
      simp only [hop, hd, z1, z2, hnew, noPs]
    refine wpOp_of ho (eff_ok hrel hgd heff (fun p hp => by cases hp) K Q fun a' w' β' hrel' => hK a' w' ⟨_, q, β', hrel', i.next ho hr hj hpre rfl (.inl ⟨d, .loc d 0, by rw [← h], rfl, rfl, rfl⟩) (.inl ⟨by rw [← h], rfl⟩) (fun b hb => ?_) (fun b a2 ra ha hal2 hl => ?_) ?_ i.ow i.nx⟩)
    · simp only [findB_cons]
      split
      · rename_i e
        subst e
        have hno : ∀ (k : Nat) (rk : Rec), 0 ≤ k → k < q → recs[k]? = some rk → rk.tgt ≠ some (some b) := fun k rk _ h2 hk htk => by
          have a1 := i.q1 k rk hk (by rw [htk]; exact fun e => by cases e) h2
          have a2 := reach_listed i.closed (c.stores hk htk hr hal) a1
          rw [hj] at a2; cases a2
        rw [c.box_const (Nat.zero_le q) hno]
        have e0 : memAt c.m0 recs 0 = c.m0 := by cases recs <;> rfl
        rw [e0]
        show _ = findB (al ++ st0.bx) b
        rw [findB_append, z4]
      · rename_i e
        refine i.bx1 b fun a2 ra ha hal2 => ?_
        have := hb a2 ra ha hal2
        by_cases e2 : a2 = j
        · subst e2
          rw [hr] at ha; obtain rfl := Option.some.inj ha
          rw [hal] at hal2
          exact absurd (Option.some.inj hal2).symm e
        · rwa [listed_set e2] at this
    · have hne : a2 ≠ j := fun e2 => by rw [e2, hself] at hl; cases hl
      rw [listed_set hne] at hl
      simp only [findB_cons]
      rw [if_neg]
      · exact i.bx2 b a2 ra ha hal2 hl
      · intro e
        subst e
        obtain ⟨o2, T2, p1, _, p3, _⟩ := c.al_dst ha hal2
        exact hne (c.inj p1 ho p3 hd)
    · simp only [plainB, plainCs_map, Bool.true_and]; exact i.bxP
  · cases h
  · -- store
    rename_i T x v hop
    split at h
    case h_2 => cases h
    rename_i b off y hd hgd hx hv
    split at h
    case h_2 => cases h
    rename_i s cs T' cc hs hcs hbx
    split at h
    case h_2 => cases h
    rename_i hcond
    simp only [Option.some.injEq] at h
    simp only [Bool.and_eq_true] at hcond
    have ht : r.tgt = some (some b) := by rw [← h]
    have htn : r.tgt ≠ none := by rw [ht]; exact fun e => by cases e
    obtain ⟨hqj, hmem⟩ := i.at_eff ho hr htn hj hpre
    have hlisted : ∀ (a2 : Nat) (ra : Rec), recs[a2]? = some ra → ra.al = some b → listed.getD a2 false = true := fun a2 ra ha hal2 => i.before ho hpre (c.stores hr ht ha hal2)
    have hb : findB st.bx b = some (T', cc) := by rw [i.bx1 b hlisted, ← hmem]; exact hbx
    have how : st.ow = (memAt c.m0 recs j).ow := by rw [i.ow, hmem]
    have hnx : st.nx = (memAt c.m0 recs j).nx := by rw [i.nx, hmem]
    have hst : st.store b off cs = some ⟨st.n, st.sl, st.gl, setB b (T', layAt cc off cs) st.bx, st.ow, st.nx⟩ := by
      unfold St.store
      simp only [hb, hcond.2]
    have heff : eff τ st o = some ([], ⟨st.n, st.sl, st.gl, setB b (T', layAt cc off cs) st.bx, st.ow, st.nx⟩) := by
      unfold eff
      simp only [hop, hd, i.look hnog hj hpre hx, i.look hnog hj hpre hv, hs, how, hcs, hcond.1]
      rw [← how, hst]
      rfl
    have hal : r.al = none := by rw [← h]
    refine wpOp_of ho (eff_ok hrel hgd heff (fun p hp => by cases hp) K Q fun a' w' β' hrel' => hK a' w' ⟨_, j + 1, β', hrel', i.next ho hr hj hpre rfl (.inr (.inr ⟨by rw [← h], rfl, rfl⟩)) (.inr ⟨htn, rfl⟩) (fun b2 hb2 => ?_) (fun b2 a2 ra ha hal2 hl => ?_) ?_ ?_ ?_⟩)
    · rw [hpost, ← h]
      simp only [findB_setB]
      by_cases e : b2 = b
      · subst e
        rw [if_pos rfl, if_pos rfl, hb, hbx]
      · rw [if_neg e, if_neg e, hmem]
        refine i.bx1 b2 fun a2 ra ha hal2 => ?_
        have := hb2 a2 ra ha hal2
        have hne : a2 ≠ j := fun e2 => by
          subst e2
          rw [hr] at ha; obtain rfl := Option.some.inj ha
          rw [hal] at hal2; cases hal2
        rwa [listed_set hne] at this
    · have hne : a2 ≠ j := fun e2 => by rw [e2, hself] at hl; cases hl
      rw [listed_set hne] at hl
      simp only [findB_setB]
      rw [if_neg]
      · exact i.bx2 b2 a2 ra ha hal2 hl
      · intro e
        subst e
        rw [hlisted a2 ra ha hal2] at hl; cases hl
    · refine plainB_of fun i2 T2 l2 hm => ?_
      have hmem2 : ∀ {l : List (Nat × TypeId × List SV)}, (i2, T2, l2) ∈ setB b (T', layAt cc off cs) l → (i2, T2, l2) ∈ l ∨ l2 = layAt cc off cs := by
        intro l
        induction l with
        | nil => intro h; cases h
        | cons z l ih =>
          intro h
          obtain ⟨k, z⟩ := z
          simp only [setB] at h
          split at h
          · rcases List.mem_cons.1 h with h | h
            · simp only [Prod.mk.injEq] at h; exact .inr h.2.2
            · exact .inl (List.mem_cons_of_mem _ h)
          · rcases List.mem_cons.1 h with h | h
            · exact .inl (by rw [h]; exact List.mem_cons_self)
            · rcases ih h with h | h
              · exact .inl (List.mem_cons_of_mem _ h)
              · exact .inr h
      rcases hmem2 hm with h3 | h3
      · exact plainB_mem i.bxP h3
      · rw [h3]
        have hcc := plainB_mem i.bxP (findB_mem hb)
        have hcsp : ∀ z ∈ cs, plainC st.nx z = true := by
          unfold cellsSV at hcs
          split at hcs
          · split at hcs
            · simp only [Option.some.injEq] at hcs; subst hcs
              exact fun z hz => plainCs_mem (plainCs_map st.nx _) hz
            · cases hcs
          · rename_i jj
            split at hcs
            · rename_i oo hoo
              simp only [Option.some.injEq] at hcs; subst hcs
              intro z hz
              obtain rfl := List.mem_singleton.1 hz
              have := hrel.onx jj (by rw [how, hoo]; rfl)
              exact Nat.ble_eq_true_of_le this
            · cases hcs
          · cases hcs
        refine plainCs_of fun z hz => ?_
        unfold layAt at hz
        simp only [List.append_assoc, List.mem_append] at hz
        rcases hz with hz | hz | hz
        · exact plainCs_mem hcc (List.mem_of_mem_take hz)
        · exact hcsp z hz
        · exact plainCs_mem hcc (List.mem_of_mem_drop hz)
    · rw [hpost, ← h]; exact how
    · rw [hpost, ← h]; exact hnx
  · -- calls
    rename_i cl hop
    split at h
    · rename_i happ
      unfold dApp at h
      split at h
      case h_2 => cases h
      rename_i x y T T' d hargs hty hd hgd
      split at h
      case h_2 => cases h
      rename_i s t hTT hx hy
      split at h
      case h_2 => cases h
      rename_i ps st' hap
      simp only [Option.some.injEq] at h
      have ht : r.tgt = some none := by rw [← h]
      have htn : r.tgt ≠ none := by rw [ht]; exact fun e => by cases e
      obtain ⟨hqj, hmem⟩ := i.at_eff ho hr htn hj hpre
      have how : st.ow = (memAt c.m0 recs j).ow := by rw [i.ow, hmem]
      have hnx : st.nx = (memAt c.m0 recs j).nx := by rw [i.nx, hmem]
      obtain ⟨hgl, hng⟩ := i.slot_free ho hd hj
      have hdyn := append_dyn hap i.n how hnx hgl hng (noO_of fun s x hm => ownLt_noO (i.own_sl hm)) (noOG_of fun s g p x hm => ownLt_noO (i.own_gl hm)) (plainB_noOB i.bxP)
      have hcal : cl.callee = .builtin .append := by
        simp only [isApp] at happ
        split at happ
        · assumption
        · cases happ
      have heff : eff τ st o = some (ps, ⟨st.n, (d, .own st.nx) :: st.sl, st.gl, st.bx, st'.ow, st'.nx⟩) := by
        unfold eff
        simp only [hop, hd, hcal, hargs, hty, hTT, i.look hnog hj hpre hx, i.look hnog hj hpre hy]
        exact hdyn
      have hps : ∀ p ∈ ps, p := by
        have := c.ps j r hr
        rw [← h] at this; exact this
      have hal : r.al = none := by rw [← h]
      have hnx' : st'.nx = st.nx + 1 := by
        have hap' := hap
        unfold St.append at hap'
        split at hap'
        case h_2 => cases hap'
        split at hap'
        case h_2 => cases hap'
        split at hap'
        case h_2 => cases hap'
        split at hap'
        case h_2 => cases hap'
        split at hap'
        case h_2 => cases hap'
        simp only [Option.some.injEq, Prod.mk.injEq] at hap'
        rw [← hap'.2, hnx]
      refine wpOp_of ho (eff_ok hrel hgd heff hps K Q fun a' w' β' hrel' => hK a' w' ⟨_, j + 1, β', hrel', i.next ho hr hj hpre rfl (.inl ⟨d, .own st.nx, by rw [← h, hnx], rfl, rfl, rfl⟩) (.inr ⟨htn, rfl⟩) (fun b2 hb2 => ?_) (fun b2 a2 ra ha hal2 hl => ?_) ?_ ?_ ?_⟩)
      · rw [hpost, ← h]
        show findB st.bx b2 = findB (memAt c.m0 recs j).bx b2
        rw [hmem]
        refine i.bx1 b2 fun a2 ra ha hal2 => ?_
        have := hb2 a2 ra ha hal2
        have hne : a2 ≠ j := fun e2 => by
          subst e2
          rw [hr] at ha; obtain rfl := Option.some.inj ha
          rw [hal] at hal2; cases hal2
        rwa [listed_set hne] at this
      · have hne : a2 ≠ j := fun e2 => by rw [e2, hself] at hl; cases hl
        rw [listed_set hne] at hl
        exact i.bx2 b2 a2 ra ha hal2 hl
      · exact plainB_mono (by show st.nx ≤ st'.nx; omega) i.bxP
      · rw [hpost, ← h]
      · rw [hpost, ← h]
    · exact step_pure hsp hnog i hrel ho hr hj hpre h hK
  · exact step_pure hsp hnog i hrel ho hr hj hpre h hK
end
end Go.Sim

namespace Go.Sim
open Go.RowKit (Below)

section
variable {P : Program} {τ : Tab} [TabOk P τ] {sp : Spec} {W : World} {N0 F : Nat → Prop}

theorem entsOf_none {s k : Nat} {r : Rec} {x : SV} : ∀ {l : List Rec}, findB (entsOf l) s = none → l[k]? = some r → r.ent = some (s, x) → isG x = true := by
  intro l
  induction l generalizing k with
  | nil => intro _ h; simp at h
  | cons y l ih =>
    intro h hk he
    cases hg : isG x with
    | true => rfl
    | false =>
      cases k with
      | zero =>
        simp at hk; subst hk
        have e : entsOf (y :: l) = (s, x) :: entsOf l := by simp only [entsOf, he, hg]
        rw [e, findB_cons, if_pos rfl] at h
        cases h
      | succ k =>
        have h2 : findB (entsOf l) s = none := by
          simp only [entsOf] at h
          cases hy : y.ent with
          | none => rw [hy] at h; exact h
          | some e =>
            rw [hy] at h
            obtain ⟨d, z⟩ := e
            cases hgz : isG z with
            | true => simp only [hgz] at h; exact h
            | false =>
              simp only [hgz] at h
              rw [findB_cons] at h
              split at h
              · cases h
              · exact h
        have := ih h2 (by simpa using hk) he
        rw [hg] at this; cases this

theorem dTry_ok (hm : P.follows .mixedOrders = true) (hsp : SpecOk P sp) {id : Nat} {ops : Array Oper} {st : St} {ps : List Prop} {s1 : St} (h : dTry τ sp ops st = some (ps, s1)) (hp : ∀ p ∈ ps, p) {β : Envr} {a : Act} {w : World} (hr : Rel W N0 F st β a w)
    {Q : Exit → Act → World → Prop} (hQ : ∀ β' a' w', Rel W N0 F s1 β' a' w' → Q .normal a' w') : (Code.region id ops true).wp P Q a w := by
  unfold dTry at h
  split at h
  case h_2 => cases h
  rename_i al hpre hal
  split at h
  case h_2 => cases h
  rename_i recs hpl hrun
  split at h
  case h_2 => cases h
  rename_i hchk
  simp only [Option.some.injEq, Prod.mk.injEq] at h
  obtain ⟨rfl, rfl⟩ := h
  simp only [Bool.and_eq_true] at hpre hpl hchk
  obtain ⟨⟨hok, hnil⟩, hosl⟩ := hpre
  obtain ⟨⟨⟨⟨⟨k1, k2⟩, k3⟩, k4⟩, k5⟩, k6⟩ := hchk
  obtain ⟨hlen, hspec⟩ := dRun_spec _ _ _ _ _ hrun
  have hgl : st.gl = [] := by
    cases hg : st.gl with
    | nil => rfl
    | cons _ _ => rw [hg] at hnil; cases hnil
  have c : DCtx τ sp ops st al recs := ⟨by simpa using hlen, fun k o ho => by
      obtain ⟨r, a1, a2, a3⟩ := hspec k o (by simpa using ho)
      rw [Nat.zero_add] at a2
      exact ⟨r, a1, a2, a3⟩, hok, hgl, hosl, hpl.1, hal, k1, k2, k3, k4, k5, k6, fun k r hk p hpr => hp p (psOf_mem hk hpr)⟩
  have hnog : ∀ s x, findB st.sl s = some x → isG x = false := fun s x hx => by
    have hd := hr.slots s x hx
    cases x with
    | grd g p y => cases hd
    | _ => rfl
  -- at the start
  have hgetF : ∀ k, (Array.replicate ops.size false).getD k false = false := fun k => by simp [Array.getD]
  have hstart : EInv c (Array.replicate ops.size false) st 0 := by
    refine ⟨by simp, fun k o _ hl => (by rw [hgetF] at hl; cases hl), fun e r _ _ hlt => absurd hlt (Nat.not_lt_zero e), fun e r _ _ _ => hgetF e, rfl, fun k r d x _ _ hl => (by rw [hgetF] at hl; cases hl), fun k r d g p y _ _ hl => (by rw [hgetF] at hl; cases hl), fun s _ => rfl,
      fun s x hm => .inl hm, fun s g p y hm => (by rw [hgl] at hm; cases hm), fun i hi => ?_, fun i a r ha hai _ => (c.newb ha hai).1, hpl.1, ?_, ?_⟩
    · have e0 : memAt c.m0 recs 0 = c.m0 := by cases recs <;> rfl
      rw [e0]
      show _ = findB (al ++ st.bx) i
      have hn : findB al i = none := by
        refine allocs_none ops.toList al hal fun k o T ho hop hd => ?_
        obtain ⟨r, a1, a2, _⟩ := c.spec k o (by simpa using ho)
        have hral : r.al = some i := by
          unfold dOp at a2
          simp only [hop] at a2
          split at a2
          · rename_i d hd' hg'
            simp only [Option.some.injEq] at a2
            rw [← a2]
            rw [hd] at hd'
            exact hd'.symm
          · cases a2
        have := hi k r a1 hral
        rw [hgetF] at this; cases this
      rw [findB_append, hn]
    · have e0 : memAt c.m0 recs 0 = c.m0 := by cases recs <;> rfl
      rw [e0]
    · have e0 : memAt c.m0 recs 0 = c.m0 := by cases recs <;> rfl
      rw [e0]
  -- at the end
  have fin : ∀ (listed : Array Bool) (a : Act) (w : World), DNow c W N0 F listed a w → Region.ready .any ops listed = [] → Q .normal a w := by
    rintro listed a w ⟨st', q, β', hrel, i⟩ hrd
    have hall : ∀ k, k < ops.size → listed.getD k false = true := by
      intro k
      induction k using Nat.strongRecOn with
      | _ k ih =>
        intro hk
        refine Classical.byContradiction fun hne => ?_
        have hmem : k ∈ Region.ready .any ops listed := by
          rw [mem_ready]
          refine ⟨by rw [getD_false_true (by rw [i.size']; exact hk)]; simpa using hne, ops[k], Array.getElem?_eq_getElem hk, fun e he hb => ?_⟩
          have := (drawOKe_ok ops.toList 0 [] hok k ops[k] (by simp [hk])).1 e he hb
          exact ih e.on (by omega) (by omega)
        rw [hrd] at hmem
        cases hmem
    have hallr : ∀ (k : Nat) (r : Rec), recs[k]? = some r → listed.getD k false = true := fun k r hk => hall k (by rw [← c.len]; exact (List.getElem?_eq_some_iff.1 hk).1)
    have hq : memAt c.m0 recs recs.length = memAt c.m0 recs q := by
      rcases Nat.le_total q recs.length with h | h
      · refine c.mem_const h fun k rk h1 h2 hk => ?_
        cases htk : rk.tgt with
        | none => rfl
        | some t =>
          have a1 := i.q2 k rk hk (by rw [htk]; exact fun e => by cases e) h1
          rw [hallr k rk hk] at a1; cases a1
      · rw [memAt_end _ _ _ h]
    refine hQ β' a w (hrel.of_same i.n.symm (fun s x hx => ?_) rfl (fun b => ?_) ?_ ?_)
    · have hx : findB (entsOf recs ++ st.sl) s = some x := hx
      rw [findB_append] at hx
      split at hx
      · rename_i z hz
        obtain rfl := Option.some.inj hx
        obtain ⟨k, r, a1, a2, a3⟩ := entsOf_mem (findB_mem hz)
        exact i.done k r s z a1 a2 (hallr k r a1) a3
      · rename_i hz
        rw [i.old s fun k r x' hk he hl => ?_]
        · exact hx
        · have hg := entsOf_none hz hk he
          have h6 := allI_ok k6 k r hk
          simp only [he, hg, Bool.not_true, Bool.false_or] at h6
          rw [isNone_eq h6] at hx; cases hx
    · show findB (memAt c.m0 recs recs.length).bx b = findB st'.bx b
      rw [hq]
      exact (i.bx1 b fun a2 ra ha _ => hallr a2 ra ha).symm
    · show (memAt c.m0 recs recs.length).ow = st'.ow
      rw [hq, i.ow]
    · show (memAt c.m0 recs recs.length).nx = st'.nx
      rw [hq, i.nx]
  have hmain : ∀ (fuel : Nat) (listed : Array Bool) (a : Act) (w : World), DNow c W N0 F listed a w → (List.range ops.size).countP (fun i => !listed.getD i true) ≤ fuel → wpAny P .any ops Q fuel listed a w := by
    intro fuel
    induction fuel with
    | zero =>
      intro listed a w hi hc
      have hrd : Region.ready .any ops listed = [] := by
        cases hrd : Region.ready .any ops listed with
        | nil => rfl
        | cons j l =>
          have hj : j ∈ Region.ready .any ops listed := by rw [hrd]; exact List.mem_cons_self
          obtain ⟨h1, o, ho, _⟩ := mem_ready.1 hj
          have hjlt : j < ops.size := (Array.getElem?_eq_some_iff.1 ho).1
          have : 0 < (List.range ops.size).countP (fun i => !listed.getD i true) := List.countP_pos_iff.2 ⟨j, List.mem_range.2 hjlt, by simp only [h1]; rfl⟩
          omega
      exact ⟨hrd, fin listed a w hi hrd⟩
    | succ fuel ih =>
      intro listed a w hi hc
      refine ⟨fun hrd => fin listed a w hi hrd, fun j hj => ?_⟩
      obtain ⟨h1, o, ho, hpre⟩ := mem_ready.1 hj
      have hjlt : j < ops.size := (Array.getElem?_eq_some_iff.1 ho).1
      obtain ⟨st', q, β', hrel, i⟩ := hi
      have hj' : listed.getD j false = false := by rw [← getD_false_true (by rw [i.size']; exact hjlt)]; exact h1
      refine step_op hsp hnog i hrel ho hj' hpre fun a' w' hi' => ih _ a' w' hi' ?_
      have : (List.range ops.size).countP (fun i => !(listed.setIfInBounds j true).getD i true) < (List.range ops.size).countP (fun i => !listed.getD i true) := by
        refine countP_lt (j := j) (fun k _ h => ?_) (List.mem_range.2 hjlt) (by simp only [h1]; rfl) ?_
        · by_cases e : k = j
          · subst e; simp only [h1]; rfl
          · rw [getD_set_ne true (Ne.symm e)] at h; exact h
        · simp [Array.getD, i.size', hjlt]
      omega
  refine wp_region_any hm (hmain ops.size _ a _ ⟨st, 0, β, hr.below ((Below.refl _ w).drew), hstart⟩ ?_)
  have := List.countP_le_length (p := fun i => !(Array.replicate ops.size false).getD i true) (l := List.range ops.size)
  simpa using this

end
end Go.Sim

