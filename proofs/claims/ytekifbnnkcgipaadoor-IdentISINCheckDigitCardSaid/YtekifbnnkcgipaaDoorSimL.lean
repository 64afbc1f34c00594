/- A region whose order Go leaves open: in whatever order its operations come up, the entries are those of the text's order. Conditions: none. -/
import Derived.Test.YtekifbnnkcgipaaDoorSimK
namespace Go.Sim
open Go.RowKit (Below)

def predIn (i : Nat) : List Edge → Bool
  | [] => false
  | e :: l => (Nat.beq e.on i && Region.binds .any e) || predIn i l
def predOf (o : Oper) (i : Nat) : Bool := predIn i o.after.toList

theorem predIn_ok {i : Nat} : ∀ {l : List Edge}, predIn i l = true → ∃ e ∈ l, e.on = i ∧ Region.binds .any e = true
  | e :: l, h => by
    simp only [predIn, Bool.or_eq_true, Bool.and_eq_true] at h
    rcases h with ⟨h1, h2⟩ | h
    · exact ⟨e, List.mem_cons_self, Nat.eq_of_beq_eq_true h1, h2⟩
    · obtain ⟨e', a, b, c⟩ := predIn_ok h
      exact ⟨e', List.mem_cons_of_mem _ a, b, c⟩

/-- May operation j look at slot s: whoever else writes it comes surely before or surely after. -/
def seesGo (j : Nat) (oj : Oper) (s : Nat) : Nat → List Oper → Bool
  | _, [] => true
  | i, o :: l => (match o.dst with
    | some d => match Nat.beq d s with
      | true => match Nat.blt i j with
        | true => predOf oj i
        | false => Nat.blt j i && predOf o j
      | false => true
    | none => true) && seesGo j oj s (i + 1) l

theorem seesGo_ok {j : Nat} {oj : Oper} {s : Nat} : ∀ (l : List Oper) (i : Nat), seesGo j oj s i l = true → ∀ k o, l[k]? = some o → o.dst = some s → (i + k < j ∧ predOf oj (i + k) = true) ∨ (j < i + k ∧ predOf o j = true)
  | [], i, h, k, o, hk, _ => by simp at hk
  | o' :: l, i, h, k, o, hk, hd => by
    simp only [seesGo, Bool.and_eq_true] at h
    cases k with
    | zero =>
      simp at hk; subst hk
      have h1 := h.1
      simp only [hd, Nat.beq_refl] at h1
      split at h1
      · rename_i hlt
        exact .inl ⟨by have := Nat.le_of_ble_eq_true hlt; omega, h1⟩
      · simp only [Bool.and_eq_true] at h1
        exact .inr ⟨by have := Nat.le_of_ble_eq_true h1.1; omega, h1.2⟩
    | succ k =>
      have := seesGo_ok l (i + 1) h.2 k o (by simpa using hk) hd
      rw [show i + (k + 1) = i + 1 + k by omega]; exact this

def lookD (rs sl : List (Nat × SV)) (s : Nat) : Option SV :=
  match findB rs s with
  | some x => some x
  | none => findB sl s

def findV (ops : List Oper) (j : Nat) (oj : Oper) (rs sl : List (Nat × SV)) (s : Nat) : Option SV :=
  match seesGo j oj s 0 ops with
  | true => lookD rs sl s
  | false => none

def drawRun (τ : Tab) (sp : Spec) (ops : Array Oper) (bx : List (Nat × TypeId × List RV)) (sl : List (Nat × SV)) : Nat → List Oper → List (Nat × SV) → Option (List Prop × List (Nat × SV))
  | _, [], rs => some ([], rs)
  | j, o :: l, rs => match stepV τ sp ops bx (findV ops.toList j o rs sl) o, o.dst with
    | some (ps, x), some d => match drawRun τ sp ops bx sl (j + 1) l ((d, x) :: rs) with
      | some (qs, r) => some (ps ++ qs, r)
      | none => none
    | _, _ => none

/-- Edges lead back; each slot is written once and lies in the frame; a guard is waited for. -/
def edgesBack (j : Nat) : List Edge → Bool
  | [] => true
  | e :: l => (!(Region.binds .any e) || Nat.blt e.on j) && edgesBack j l
theorem edgesBack_ok {j : Nat} : ∀ {l : List Edge}, edgesBack j l = true → ∀ e ∈ l, Region.binds .any e = true → e.on < j
  | e :: l, h, e', he, hb => by
    simp only [edgesBack, Bool.and_eq_true, Bool.or_eq_true, Bool.not_eq_true'] at h
    rcases List.mem_cons.1 he with rfl | he
    · rcases h.1 with h1 | h1
      · rw [h1] at hb; cases hb
      · exact Nat.le_of_ble_eq_true h1
    · exact edgesBack_ok h.2 e' he hb

def drawOK (n : Nat) : Nat → List Nat → List Oper → Bool
  | _, _, [] => true
  | j, ds, o :: l => (match o.dst with
    | some d => Nat.blt d n && !(ds.elem d) && edgesBack j o.after.toList && (match o.guard with
      | some (m, _) => predOf o m
      | none => true) && drawOK n (j + 1) (d :: ds) l
    | none => false)

theorem drawOK_ok {n : Nat} : ∀ (l : List Oper) (j : Nat) (ds : List Nat), drawOK n j ds l = true → ∀ k o, l[k]? = some o → ∃ d, o.dst = some d ∧ d < n ∧ d ∉ ds ∧ (∀ k', k' < k → ∀ o', l[k']? = some o' → o'.dst ≠ some d) ∧
    (∀ e ∈ o.after, Region.binds .any e = true → e.on < j + k) ∧ (∀ m p, o.guard = some (m, p) → predOf o m = true)
  | [], j, ds, h, k, o, hk => by simp at hk
  | o' :: l, j, ds, h, k, o, hk => by
    simp only [drawOK] at h
    split at h
    · rename_i d hd
      simp only [Bool.and_eq_true, Bool.not_eq_true'] at h
      obtain ⟨⟨⟨⟨h1, h2⟩, h3⟩, h4⟩, h5⟩ := h
      cases k with
      | zero =>
        simp at hk; subst hk
        refine ⟨d, hd, Nat.le_of_ble_eq_true h1, fun hm => ?_, fun k' hk' => absurd hk' (Nat.not_lt_zero k'), fun e he hb => edgesBack_ok h3 e (by simpa using he) hb, fun m p hg => ?_⟩
        · rw [List.elem_eq_mem] at h2; simp [hm] at h2
        · simpa [hg] using h4
      | succ k =>
        obtain ⟨d', a1, a2, a3, a4, a5, a6⟩ := drawOK_ok l (j + 1) (d :: ds) h5 k o (by simpa using hk)
        refine ⟨d', a1, a2, fun hm => a3 (List.mem_cons_of_mem _ hm), fun k' hk' o'' ho'' => ?_, fun e he hb => by have := a5 e he hb; omega, a6⟩
        cases k' with
        | zero =>
          simp at ho''; subst ho''
          rw [hd]
          intro e
          have : d = d' := by simpa using e
          exact a3 (this ▸ List.mem_cons_self)
        | succ k' => exact a4 k' (by omega) o'' (by simpa using ho'')
    · cases h

/-- The entries that hold without a guard. -/
def plains : List (Nat × SV) → List (Nat × SV)
  | [] => []
  | (k, x) :: l => match isG x with
    | true => plains l
    | false => (k, x) :: plains l
theorem plains_mem {s : Nat} {x : SV} : ∀ {l : List (Nat × SV)}, (s, x) ∈ plains l → isG x = false ∧ (s, x) ∈ l
  | (k, y) :: l, h => by
    simp only [plains] at h
    split at h
    · obtain ⟨a, b⟩ := plains_mem h; exact ⟨a, List.mem_cons_of_mem _ b⟩
    · rename_i hc
      rcases List.mem_cons.1 h with h | h
      · obtain ⟨rfl, rfl⟩ := Prod.mk.inj h; exact ⟨hc, List.mem_cons_self⟩
      · obtain ⟨a, b⟩ := plains_mem h; exact ⟨a, List.mem_cons_of_mem _ b⟩
theorem mem_plains {s : Nat} {x : SV} (hx : isG x = false) : ∀ {l : List (Nat × SV)}, (s, x) ∈ l → (s, x) ∈ plains l
  | (k, y) :: l, h => by
    simp only [plains]
    rcases List.mem_cons.1 h with h | h
    · obtain ⟨rfl, rfl⟩ := Prod.mk.inj h
      rw [hx]; exact List.mem_cons_self
    · split
      · exact mem_plains hx h
      · exact List.mem_cons_of_mem _ (mem_plains hx h)

/-- No slot that is written under a guard had an entry before. -/
def noOld (sl : List (Nat × SV)) : List (Nat × SV) → Bool
  | [] => true
  | (k, x) :: l => (!(isG x) || isNone (findB sl k)) && noOld sl l
theorem noOld_ok {sl : List (Nat × SV)} {s : Nat} {x : SV} : ∀ {l : List (Nat × SV)}, noOld sl l = true → (s, x) ∈ l → isG x = true → findB sl s = none
  | (k, y) :: l, h, hm, hx => by
    simp only [noOld, Bool.and_eq_true, Bool.or_eq_true, Bool.not_eq_true'] at h
    rcases List.mem_cons.1 hm with hm | hm
    · obtain ⟨rfl, rfl⟩ := Prod.mk.inj hm
      rcases h.1 with h1 | h1
      · rw [hx] at h1; cases h1
      · exact isNone_eq h1
    · exact noOld_ok h.2 hm hx

theorem findB_append {α : Type} {s : Nat} {l' : List (Nat × α)} : ∀ {l : List (Nat × α)}, findB (l ++ l') s = match findB l s with | some x => some x | none => findB l' s
  | [] => rfl
  | (k, x) :: l => by
    simp only [List.cons_append, findB]
    cases Nat.beq k s with
    | true => rfl
    | false => exact findB_append

def isNil {α : Type} : List α → Bool
  | [] => true
  | _ => false

def drawTry (τ : Tab) (sp : Spec) (ops : Array Oper) (st : St) : Option (List Prop × St) :=
  match drawOK st.n 0 [] ops.toList && isNil st.gl with
  | true => match drawRun τ sp ops st.bx st.sl 0 ops.toList [] with
    | some (ps, rs) => match noOld st.sl rs with
      | true => some (ps, ⟨st.n, plains rs ++ st.sl, [], st.bx, st.ow, st.nx⟩)
      | false => none
    | none => none
  | false => none

def vcDraw (τ : Tab) (sp : Spec) (ops : Array Oper) (st : St) (K : St → Prop) : Prop :=
  match drawTry τ sp ops st with
  | some (ps, st') => conj ps (K st')
  | none => match drawTry τ sp ops st.freeze with
    | some (ps, st') => conj ps (K st')
    | none => False

theorem drawRun_spec {τ : Tab} {sp : Spec} {ops : Array Oper} {bx : List (Nat × TypeId × List RV)} {sl : List (Nat × SV)} : ∀ (l : List Oper) (j : Nat) (rs : List (Nat × SV)) (ps : List Prop) (r : List (Nat × SV)), drawRun τ sp ops bx sl j l rs = some (ps, r) →
    ∃ xs : List (Nat × SV), xs.length = l.length ∧ r = xs.reverse ++ rs ∧ ∀ k o, l[k]? = some o → ∃ ps' x d, o.dst = some d ∧ xs[k]? = some (d, x) ∧
      stepV τ sp ops bx (findV ops.toList (j + k) o ((xs.take k).reverse ++ rs) sl) o = some (ps', x) ∧ ∀ p ∈ ps', p ∈ ps
  | [], j, rs, ps, r, h => by
    simp only [drawRun, Option.some.injEq, Prod.mk.injEq] at h
    exact ⟨[], rfl, by simpa using h.2.symm, fun k o hk => by simp at hk⟩
  | o :: l, j, rs, ps, r, h => by
    simp only [drawRun] at h
    split at h
    · rename_i ps0 x d hs hd
      split at h
      · rename_i qs r' hr
        simp only [Option.some.injEq, Prod.mk.injEq] at h
        obtain ⟨rfl, rfl⟩ := h
        obtain ⟨xs, h1, h2, h3⟩ := drawRun_spec l (j + 1) _ _ _ hr
        refine ⟨(d, x) :: xs, by simp [h1], by simp [h2], fun k o' hk => ?_⟩
        cases k with
        | zero =>
          simp at hk; subst hk
          exact ⟨ps0, x, d, hd, rfl, by simpa using hs, fun p hp => List.mem_append.2 (.inl hp)⟩
        | succ k =>
          obtain ⟨ps', x', d', a1, a2, a3, a4⟩ := h3 k o' (by simpa using hk)
          refine ⟨ps', x', d', a1, by simpa using a2, ?_, fun p hp => List.mem_append.2 (.inr (a4 p hp))⟩
          have : (List.take (k + 1) ((d, x) :: xs)).reverse ++ rs = (List.take k xs).reverse ++ (d, x) :: rs := by simp
          rw [this, show j + (k + 1) = j + 1 + k by omega]
          exact a3
      · cases h
    · cases h

theorem countP_lt {p p' : Nat → Bool} {j : Nat} : ∀ {l : List Nat}, (∀ i ∈ l, p' i = true → p i = true) → j ∈ l → p j = true → p' j = false → l.countP p' < l.countP p
  | i :: l, h, hj, h1, h2 => by
    have hmono : l.countP p' ≤ l.countP p := List.countP_mono_left fun x hx => h x (List.mem_cons_of_mem _ hx)
    rw [List.countP_cons, List.countP_cons]
    by_cases hji : j = i
    · subst hji
      simp [h1, h2]; omega
    · have hj' : j ∈ l := by rcases List.mem_cons.1 hj with e | e; exact absurd e hji; exact e
      have ih := countP_lt (fun x hx => h x (List.mem_cons_of_mem _ hx)) hj' h1 h2
      have := h i List.mem_cons_self
      split <;> split <;> first | omega | (rename_i a b; exact absurd (this a) b)

theorem findB_take {xs : List (Nat × SV)} {k : Nat} {s : Nat} {x : SV} (h : findB (xs.take k).reverse s = some x) : ∃ i, i < k ∧ xs[i]? = some (s, x) := by
  have := findB_mem h
  rw [List.mem_reverse] at this
  obtain ⟨i, hi⟩ := List.mem_iff_getElem?.1 this
  rw [List.getElem?_take] at hi
  split at hi
  · rename_i hlt; exact ⟨i, hlt, hi⟩
  · cases hi

theorem findB_none_mem {α : Type} {s : Nat} {x : α} : ∀ {l : List (Nat × α)}, findB l s = none → (s, x) ∉ l
  | (k, y) :: l, h, hm => by
    simp only [findB] at h
    split at h
    · cases h
    · rename_i hk
      rcases List.mem_cons.1 hm with hm | hm
      · obtain ⟨rfl, rfl⟩ := Prod.mk.inj hm; simp at hk
      · exact findB_none_mem h hm

section
variable {P : Program} {τ : Tab} [TabOk P τ] {sp : Spec} {W : World} {N0 F : Nat → Prop} {st : St} {β : Envr} {a : Act} {w : World}

/-- What holds when the operations of 'listed' have come up. -/
structure DInv (W : World) (N0 F : Nat → Prop) (st : St) (ops : Array Oper) (xs : List (Nat × SV)) (β : Envr) (listed : Array Bool) (a : Act) (w : World) : Prop where
  keeps : Keeps F W w
  size : a.tmps.size = st.n
  defers : a.defers = []
  boxes : BoxOk β (NB N0 β st.bx st.ow) w st.bx
  done : ∀ k d x, xs[k]? = some (d, x) → listed.getD k false = true → SlotOk β (NB N0 β st.bx st.ow) a w d x
  old : ∀ s y, findB st.sl s = some y → (∀ k d x, xs[k]? = some (d, x) → listed.getD k false = true → d ≠ s) → SDen β (NB N0 β st.bx st.ow) w y (tv a s)
  closed : ∀ k o, ops[k]? = some o → listed.getD k false = true → ∀ e ∈ o.after, Region.binds .any e = true → listed.getD e.on false = true
  size' : listed.size = ops.size
  owns : OwnsOk W.heap.size β (NB N0 β st.bx st.ow) w st.ow

theorem getD_false_true {l : Array Bool} {j : Nat} (h : j < l.size) : l.getD j true = l.getD j false := by simp [Array.getD, h]

theorem draw_ok (hsp : SpecOk P sp) (h0 : Rel W N0 F st β a w) {ops : Array Oper} (hok : drawOK st.n 0 [] ops.toList = true) {xs : List (Nat × SV)} (hxl : xs.length = ops.size)
    (hx : ∀ k o, ops[k]? = some o → ∃ ps' x d, o.dst = some d ∧ xs[k]? = some (d, x) ∧ stepV τ sp ops st.bx (findV ops.toList k o (xs.take k).reverse st.sl) o = some (ps', x) ∧ ∀ p ∈ ps', p)
    {Q : Exit → Act → World → Prop} (hno : noOld st.sl xs.reverse = true) (hQ : ∀ a' w', Rel W N0 F ⟨st.n, plains xs.reverse ++ st.sl, [], st.bx, st.ow, st.nx⟩ β a' w' → Q .normal a' w') :
    ∀ (fuel : Nat) (listed : Array Bool) (a : Act) (w : World), DInv W N0 F st ops xs β listed a w → (List.range ops.size).countP (fun i => !listed.getD i true) ≤ fuel → wpAny P .any ops Q fuel listed a w := by
  have hdst : ∀ (k : Nat) (o : Oper) (d : Nat), ops[k]? = some o → o.dst = some d → ∃ x, xs[k]? = some (d, x) := fun k o d ho hd => by
    obtain ⟨_, x, d', h1, h2, _⟩ := hx k o ho
    rw [hd] at h1; obtain rfl := Option.some.inj h1
    exact ⟨x, h2⟩
  have hspec : ∀ (k : Nat) (o : Oper), ops[k]? = some o → _ := fun k o ho => drawOK_ok ops.toList 0 [] hok k o (by simpa using ho)
  have hinj : ∀ (k k' d : Nat) (x x' : SV), xs[k]? = some (d, x) → xs[k']? = some (d, x') → k = k' := by
    intro k k' d x x' h1 h2
    have hk : k < ops.size := by rw [← hxl]; exact (List.getElem?_eq_some_iff.1 h1).1
    have hk' : k' < ops.size := by rw [← hxl]; exact (List.getElem?_eq_some_iff.1 h2).1
    have e1 : ops[k]? = some ops[k] := Array.getElem?_eq_getElem hk
    have e2 : ops[k']? = some ops[k'] := Array.getElem?_eq_getElem hk'
    obtain ⟨_, y, d1, f1, f2, _⟩ := hx k _ e1
    obtain ⟨_, y', d2, g1, g2, _⟩ := hx k' _ e2
    rw [h1] at f2; rw [h2] at g2
    have fd : d = d1 := (Prod.mk.inj (Option.some.inj f2)).1
    have gd : d = d2 := (Prod.mk.inj (Option.some.inj g2)).1
    obtain ⟨q1, r1, _, _, r4, _⟩ := hspec k _ e1
    obtain ⟨q2, s1, _, _, s4, _⟩ := hspec k' _ e2
    rcases Nat.lt_trichotomy k k' with hlt | heq | hgt
    · exact absurd (by rw [f1, ← fd, gd, ← g1] : ops[k].dst = ops[k'].dst) (by rw [s1]; exact s4 k hlt _ (by simp))
    · exact heq
    · exact absurd (by rw [g1, ← gd, fd, ← f1] : ops[k'].dst = ops[k].dst) (by rw [r1]; exact r4 k' hgt _ (by simp))
  have fin : ∀ (listed : Array Bool) (a : Act) (w : World), DInv W N0 F st ops xs β listed a w → Region.ready .any ops listed = [] → Q .normal a w := by
    intro listed a w hi hr
    have hall : ∀ k, k < ops.size → listed.getD k false = true := by
      intro k
      induction k using Nat.strongRecOn with
      | _ k ih =>
        intro hk
        refine Classical.byContradiction fun hne => ?_
        have hmem : k ∈ Region.ready .any ops listed := by
          rw [mem_ready]
          refine ⟨by rw [getD_false_true (by rw [hi.size']; exact hk)]; simpa using hne, ops[k], Array.getElem?_eq_getElem hk, fun e he hb => ?_⟩
          obtain ⟨_, _, _, _, _, a5, _⟩ := hspec k _ (Array.getElem?_eq_getElem hk)
          have := a5 e he hb
          exact ih e.on (by omega) (by omega)
        rw [hr] at hmem
        cases hmem
    refine hQ a w ⟨hi.keeps, hi.size, hi.defers, fun s x hm => ?_, fun s g p x hm => (by cases hm), hi.boxes, h0.inj, h0.own, h0.outer, hi.owns, h0.odist, h0.obox, h0.onx⟩
    have hm : findB (plains xs.reverse ++ st.sl) s = some x := hm
    rw [findB_append] at hm
    split at hm
    · rename_i y hy
      simp only [Option.some.injEq] at hm; subst hm
      obtain ⟨hg, hm⟩ := plains_mem (findB_mem hy)
      rw [List.mem_reverse] at hm
      obtain ⟨k, hk⟩ := List.mem_iff_getElem?.1 hm
      exact (hi.done k s y hk (hall k (by rw [← hxl]; exact (List.getElem?_eq_some_iff.1 hk).1))).den hg
    · rename_i hn
      refine hi.old s x hm fun k d y hk _ e => ?_
      subst e
      have hmem : (d, y) ∈ xs.reverse := List.mem_reverse.2 (List.mem_of_getElem? hk)
      cases hy : isG y with
      | true => rw [noOld_ok hno hmem hy] at hm; cases hm
      | false => exact findB_none_mem hn (mem_plains hy hmem)
  have step : ∀ (listed : Array Bool) (a : Act) (w : World), DInv W N0 F st ops xs β listed a w → ∀ j ∈ Region.ready .any ops listed, ∀ (K : Act → World → Prop), (∀ a' w', DInv W N0 F st ops xs β (listed.setIfInBounds j true) a' w' → K a' w') → wpOp P ops Q j K a w := by
    intro listed a w hi j hj K hK
    obtain ⟨hjn, o, ho, hpre⟩ := mem_ready.1 hj
    have hjlt : j < ops.size := (Array.getElem?_eq_some_iff.1 ho).1
    have hjn' : listed.getD j false = false := by rw [← getD_false_true (by rw [hi.size']; exact hjlt)]; exact hjn
    obtain ⟨ps', x, d, hd, hxj, hstep, hps⟩ := hx j o ho
    obtain ⟨d', b1, b2, _, b4, b5, b6⟩ := hspec j o ho
    rw [hd] at b1; obtain rfl := Option.some.inj b1
    have hNlt : ∀ b, NB N0 β st.bx st.ow b → b < w.heap.size := by
      rintro b (hb | ⟨i, hi', rfl⟩ | ⟨i, hi', hb⟩)
      · exact Nat.lt_of_lt_of_le (h0.outer b hb) hi.keeps.size
      · cases hf : findB st.bx i with
        | none => rw [hf] at hi'; cases hi'
        | some p =>
          obtain ⟨vs, hv, _⟩ := hi.boxes i p.1 p.2 hf
          exact (Array.getElem?_eq_some_iff.1 hv).1
      · exact (hi.owns.lt hi' hb).2
    have hlist : ∀ i, predOf o i = true → listed.getD i false = true := fun i hp => by
      obtain ⟨e, he, h1, h2⟩ := predIn_ok hp
      rw [← h1]; exact hpre e (by simpa using he) h2
    have hfind : ∀ s y, findV ops.toList j o (xs.take j).reverse st.sl s = some y → SlotOk β (NB N0 β st.bx st.ow) a w s y := by
      intro s y hs
      unfold findV at hs
      split at hs
      · rename_i hsee
        have hsee' := seesGo_ok ops.toList 0 hsee
        unfold lookD at hs
        split at hs
        · rename_i z hz
          simp only [Option.some.injEq] at hs; subst hs
          obtain ⟨i, hij, hxi⟩ := findB_take hz
          have hi' : i < ops.size := by omega
          obtain ⟨_, x', d', f1, f2, _⟩ := hx i _ (Array.getElem?_eq_getElem hi')
          rw [hxi] at f2
          obtain ⟨rfl, rfl⟩ := Prod.mk.inj (Option.some.inj f2)
          rcases hsee' i ops[i] (by simp [hi']) f1 with ⟨_, hp⟩ | ⟨hlt, _⟩
          · exact hi.done i _ _ hxi (hlist i (by simpa using hp))
          · omega
        · rename_i hz
          refine SlotOk.of_den (hi.old s y hs fun k d2 x2 hk hl e => ?_)
          subst e
          have hk' : k < ops.size := by rw [← hxl]; exact (List.getElem?_eq_some_iff.1 hk).1
          obtain ⟨_, x', d', f1, f2, _⟩ := hx k _ (Array.getElem?_eq_getElem hk')
          rw [hk] at f2
          obtain ⟨rfl, rfl⟩ := Prod.mk.inj (Option.some.inj f2)
          rcases hsee' k ops[k] (by simp [hk']) f1 with ⟨hlt, _⟩ | ⟨hlt, hp⟩
          · refine findB_none_mem (x := x2) hz ?_
            rw [List.mem_reverse]
            exact List.mem_of_getElem? (i := k) (by rw [List.getElem?_take, if_pos (by omega)]; exact hk)
          · obtain ⟨e, he, h1, h2⟩ := predIn_ok hp
            have := hi.closed k _ (Array.getElem?_eq_getElem hk') hl e (by simpa using he) h2
            rw [h1, hjn'] at this
            cases this
      · cases hs
    have hself : ∀ m p s, o.guard = some (m, p) → dstOf ops m = some s → s ≠ d := by
      intro m p s hg hs e
      subst e
      have hpm := b6 m p hg
      obtain ⟨e, he, h1, h2⟩ := predIn_ok hpm
      have hm := b5 e (by simpa using he) h2
      unfold dstOf at hs
      cases hom : ops[m]? with
      | none => rw [hom] at hs; cases hs
      | some om =>
        rw [hom] at hs
        exact b4 m (by omega) om (by simpa using hom) (by simpa using hs)
    have hgive := stepV_ok (β := β) hsp hNlt hi.boxes hfind hstep hps hd (by rw [hi.size]; exact b2) hself
    have hfinal : ∀ v w', SlotOk β (NB N0 β st.bx st.ow) (a.put (some d) v) w' d x → Below w.heap.size w w' → DInv W N0 F st ops xs β (listed.setIfInBounds j true) (a.put (some d) v) w' := by
      intro v w' hv hbl
      have hsame : Same (NB N0 β st.bx st.ow) w w' := .of_below hbl
      have hset : ∀ k, (listed.setIfInBounds j true).getD k false = true → k = j ∨ listed.getD k false = true := fun k hk => by
        by_cases e : k = j
        · exact .inl e
        · rw [getD_set_ne false (Ne.symm e)] at hk; exact .inr hk
      have hset' : ∀ k, listed.getD k false = true → (listed.setIfInBounds j true).getD k false = true := fun k hk => by
        by_cases e : k = j
        · subst e; rw [hjn'] at hk; cases hk
        · rw [getD_set_ne false (Ne.symm e)]; exact hk
      refine ⟨hi.keeps.below hbl, by rw [put_size]; exact hi.size, by rw [put_defers']; exact hi.defers,
        hi.boxes.same hsame (fun i hi' => hbl.block _ (hNlt _ (.inr (.inl ⟨i, hi', rfl⟩)))), fun k d2 x2 hk hl => ?_, fun s y hm hno => ?_, fun k o2 hk hl e he hb => ?_, by simp [hi.size'],
        hi.owns.same hsame (fun i b hi' hb => hbl.block _ (hi.owns.lt hi' hb).2)⟩
      · rcases hset k hl with rfl | hl'
        · rw [hxj] at hk
          obtain ⟨rfl, rfl⟩ := Prod.mk.inj (Option.some.inj hk)
          exact hv
        · have hkj : k ≠ j := fun e => by rw [e, hjn'] at hl'; cases hl'
          have hne : d2 ≠ d := fun e => hkj (hinj k j d2 x2 x hk (e ▸ hxj))
          refine ((hi.done k d2 x2 hk hl').same hsame).turn (tv_put_other hne) (fun g p y e => tv_put_other ?_)
          subst e
          have hk' : k < ops.size := by rw [← hxl]; exact (List.getElem?_eq_some_iff.1 hk).1
          have hok := Array.getElem?_eq_getElem hk'
          obtain ⟨_, x3, d3, f1, f2, f3, _⟩ := hx k _ hok
          rw [hk] at f2
          obtain ⟨rfl, rfl⟩ := Prod.mk.inj (Option.some.inj f2)
          obtain ⟨m, hg, hds⟩ := stepV_grd f3
          obtain ⟨_, _, _, _, _, c5, c6⟩ := hspec k _ hok
          obtain ⟨e, he, h1, h2⟩ := predIn_ok (c6 m p hg)
          have hlm := hi.closed k _ hok hl' e (by simpa using he) h2
          rw [h1] at hlm
          intro e'
          subst e'
          unfold dstOf at hds
          cases hom : ops[m]? with
          | none => rw [hom] at hds; cases hds
          | some om =>
            rw [hom] at hds
            obtain ⟨x4, hx4⟩ := hdst m om _ hom hds
            have := hinj m j _ x4 x hx4 hxj
            rw [this, hjn'] at hlm
            cases hlm
      · have hne : s ≠ d := fun e => by
          refine hno j d x hxj ?_ e.symm
          simp [Array.getD, hi.size', hjlt]
        rw [tv_put_other hne]
        exact (hi.old s y hm fun k d2 x2 hk hl => hno k d2 x2 hk (hset' k hl)).same hsame
      · rcases hset k hl with rfl | hl'
        · rw [ho] at hk; obtain rfl := Option.some.inj hk
          exact hset' _ (hpre e he hb)
        · exact hset' _ (hi.closed k o2 hk hl' e he hb)
    have := hgive K Q fun v w' hv hbl => hK _ _ (hfinal v w' hv hbl)
    unfold wpOp
    simp only [ho]
    split
    · rename_i hw; rw [if_pos hw] at this; exact .inl this
    · rename_i hw; rw [if_neg hw] at this; exact this
  intro fuel
  induction fuel with
  | zero =>
    intro listed a w hi hc
    have hr : Region.ready .any ops listed = [] := by
      cases hr : Region.ready .any ops listed with
      | nil => rfl
      | cons j l =>
        have hj : j ∈ Region.ready .any ops listed := by rw [hr]; exact List.mem_cons_self
        obtain ⟨h1, o, ho, _⟩ := mem_ready.1 hj
        have hjlt : j < ops.size := (Array.getElem?_eq_some_iff.1 ho).1
        have : 0 < (List.range ops.size).countP (fun i => !listed.getD i true) := List.countP_pos_iff.2 ⟨j, List.mem_range.2 hjlt, by simp only [h1]; rfl⟩
        omega
    exact ⟨hr, fin listed a w hi hr⟩
  | succ fuel ih =>
    intro listed a w hi hc
    refine ⟨fun hr => fin listed a w hi hr, fun j hj => ?_⟩
    refine step listed a w hi j hj _ fun a' w' hi' => ih _ a' w' hi' ?_
    obtain ⟨h1, o, ho, _⟩ := mem_ready.1 hj
    have hjlt : j < ops.size := (Array.getElem?_eq_some_iff.1 ho).1
    have : (List.range ops.size).countP (fun i => !(listed.setIfInBounds j true).getD i true) < (List.range ops.size).countP (fun i => !listed.getD i true) := by
      refine countP_lt (j := j) (fun i _ h => ?_) (List.mem_range.2 hjlt) (by simp only [h1]; rfl) ?_
      · by_cases e : i = j
        · subst e; simp only [h1]; rfl
        · rw [getD_set_ne true (Ne.symm e)] at h; exact h
      · simp [Array.getD, hi.size', hjlt]
    omega

end
end Go.Sim
