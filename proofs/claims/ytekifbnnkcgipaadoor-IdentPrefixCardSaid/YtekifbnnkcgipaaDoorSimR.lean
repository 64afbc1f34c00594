/- Bodies piece by piece: cuts, blocks and loops over code laid out as a list; states made smaller by a recipe. Conditions: none. -/
import Derived.Test.YtekifbnnkcgipaaDoorSimQ
namespace Go.Sim
open Go.RowKit (Below)

/-- A recipe that makes a state smaller. -/
inductive Shr where
  | keep (ss : List Nat)
  | nilO (ss : List Nat) (s : Nat) (e : TypeId) (sz : Nat) (f : Nat → RV)
  | ren (ss : List Nat) (i j nx : Nat)
  | noBox (ds : List Nat)
  | both (a b : Shr)
def Shr.run : Shr → St → Option St
  | .keep ss, st => some (st.keep ss)
  | .nilO ss s e sz f, st => st.nilO ss s e sz f
  | .ren ss i j nx, st => st.ren ss i j nx
  | .noBox ds, st => st.noBox ds
  | .both a b, st => match a.run st with
    | some s => b.run s
    | none => none
theorem Shr.ok : ∀ (r : Shr) {st st' : St}, r.run st = some st' → Weaker st st'
  | .keep ss, st, st', h => by
    simp only [Shr.run, Option.some.injEq] at h
    exact h ▸ weaker_keep st ss
  | .nilO ss s e sz f, st, st', h => weaker_nilO ss s e sz f h
  | .ren ss i j nx, st, st', h => weaker_ren ss i j nx h
  | .noBox ds, st, st', h => weaker_noBox ds h
  | .both a b, st, st', h => by
    simp only [Shr.run] at h
    split at h
    · rename_i s hs
      exact (Shr.ok a hs).trans (Shr.ok b h)
    · cases h

section
variable (P : Program)
/-- From every frame and world that st stands for, c ends as Q says. -/
def Wp (c : Code) (st : St) (Q : Exit → St → Prop) : Prop := ∀ (W : World) (N0 F : Nat → Prop) (β : Envr) (a : Act) (w : World), Rel W N0 F st β a w → c.wp P (Post W N0 F Q) a w
def onNormal (A : St → Prop) (Q : Exit → St → Prop) : Exit → St → Prop := fun e s => match e with
  | .normal => A s
  | e => Q e s
/-- Here Q holds. -/
def Here (st : St) (Q : Exit → St → Prop) : Prop := ∀ (W : World) (N0 F : Nat → Prop) (β : Envr) (a : Act) (w : World), Rel W N0 F st β a w → Post W N0 F Q .normal a w
end
def WpL (P : Program) : List Code → St → (Exit → St → Prop) → Prop
  | [], st, Q => Here st Q
  | c :: l, st, Q => Wp P c st (onNormal (fun s => WpL P l s Q) Q)
def vcL (τ : Tab) (sp : Spec) : List Code → St → (Exit → St → Prop) → Prop
  | [], st, Q => Q .normal st
  | c :: l, st, Q => vc τ sp c st (onNormal (fun s => vcL τ sp l s Q) Q)
def flat : Code → List Code
  | .seq x y => flat x ++ flat y
  | c => [c]

section
variable {P : Program}
theorem Wp.mono {c : Code} {st : St} {Q Q' : Exit → St → Prop} (h : Wp P c st Q) (hq : ∀ e s, Q e s → Q' e s) : Wp P c st Q' := fun W N0 F β a w hr =>
  wp_mono (h W N0 F β a w hr) fun e _ _ ⟨s, β', hr', hs⟩ => ⟨s, β', hr', hq e s hs⟩
theorem Wp.weak {c : Code} {st s2 : St} {Q : Exit → St → Prop} (hw : Weaker st s2) (h : Wp P c s2 Q) : Wp P c st Q := fun W N0 F β a w hr =>
  let ⟨β', hr'⟩ := hw W N0 F β a w hr; h W N0 F β' a w hr'
theorem onNormal_mono {A A' : St → Prop} {Q Q' : Exit → St → Prop} (ha : ∀ s, A s → A' s) (hq : ∀ e s, e ≠ .normal → Q e s → Q' e s) : ∀ e s, onNormal A Q e s → onNormal A' Q' e s := by
  intro e s h
  cases e with
  | normal => exact ha s h
  | exit i => exact hq _ s (fun e => by cases e) h
  | goto i => exact hq _ s (fun e => by cases e) h
  | ret => exact hq _ s (fun e => by cases e) h
  | panic i => exact hq _ s (fun e => by cases e) h
  | outgrown => exact hq _ s (fun e => by cases e) h
theorem onNormal_ne {A : St → Prop} {Q : Exit → St → Prop} {e : Exit} {s : St} (he : e ≠ .normal) (h : onNormal A Q e s) : Q e s := by
  cases e with
  | normal => exact absurd rfl he
  | exit i => exact h
  | goto i => exact h
  | ret => exact h
  | panic i => exact h
  | outgrown => exact h
theorem Here.weak {st s2 : St} {Q : Exit → St → Prop} (hw : Weaker st s2) (h : Here s2 Q) : Here st Q := fun W N0 F β a w hr =>
  let ⟨β', hr'⟩ := hw W N0 F β a w hr; h W N0 F β' a w hr'
theorem WpL.weak {l : List Code} {st s2 : St} {Q : Exit → St → Prop} (hw : Weaker st s2) (h : WpL P l s2 Q) : WpL P l st Q := by
  cases l with
  | nil => exact Here.weak hw h
  | cons c l => exact Wp.weak hw h
theorem Here.mono {st : St} {Q Q' : Exit → St → Prop} (h : Here st Q) (hq : ∀ e s, Q e s → Q' e s) : Here st Q' := fun W N0 F β a w hr =>
  let ⟨s, β', hr', hs⟩ := h W N0 F β a w hr; ⟨s, β', hr', hq _ s hs⟩
theorem WpL.mono : ∀ {l : List Code} {st : St} {Q Q' : Exit → St → Prop}, WpL P l st Q → (∀ e s, Q e s → Q' e s) → WpL P l st Q'
  | [], _, _, _, h, hq => Here.mono h hq
  | _ :: _, _, _, _, h, hq => Wp.mono h (onNormal_mono (fun _ hs => WpL.mono hs hq) fun e s _ => hq e s)

theorem flat_ok : ∀ (c : Code) (l : List Code) (st : St) (Q : Exit → St → Prop), WpL P (flat c ++ l) st Q → Wp P c st (onNormal (fun s => WpL P l s Q) Q) := by
  intro c
  induction c with
  | seq x y ihx ihy =>
    intro l st Q h W N0 F β a w hr
    simp only [flat, List.append_assoc] at h
    refine wp_seq (wp_mono (ihx _ st Q h W N0 F β a w hr) fun e a' w' hp => ?_)
    obtain ⟨s, β', hr', hs⟩ := hp
    cases e with
    | normal => exact ihy l s Q hs W N0 F β' a' w' hr'
    | exit i => exact ⟨s, β', hr', hs⟩
    | goto i => exact ⟨s, β', hr', hs⟩
    | ret => exact ⟨s, β', hr', hs⟩
    | panic i => exact ⟨s, β', hr', hs⟩
    | outgrown => exact ⟨s, β', hr', hs⟩
  | _ => intro l st Q h; exact h
/-- A body by its list. -/
theorem wp_flat {c : Code} {st : St} {Q : Exit → St → Prop} (h : WpL P (flat c) st Q) : Wp P c st Q := fun W N0 F β a w hr =>
  wp_mono (flat_ok c [] st Q (by rw [List.append_nil]; exact h) W N0 F β a w hr) fun e a' w' hp => by
    obtain ⟨s, β', hr', hs⟩ := hp
    cases e with
    | normal => exact hs W N0 F β' a' w' hr'
    | exit i => exact ⟨s, β', hr', hs⟩
    | goto i => exact ⟨s, β', hr', hs⟩
    | ret => exact ⟨s, β', hr', hs⟩
    | panic i => exact ⟨s, β', hr', hs⟩
    | outgrown => exact ⟨s, β', hr', hs⟩

section
variable {τ : Tab} [TabOk P τ] {sp : Spec}
theorem Wp.of_vc (hm : P.follows .mixedOrders = true) (hsp : SpecOk P sp) {c : Code} {st : St} {Q : Exit → St → Prop} (h : vc τ sp c st Q) : Wp P c st Q := fun _ _ _ β a w hr => vc_ok hm hsp c st Q h β a w hr
theorem vcL_then (hm : P.follows .mixedOrders = true) (hsp : SpecOk P sp) : ∀ (p r : List Code) (st : St) (M : St → Prop) (Q : Exit → St → Prop), vcL τ sp p st (onNormal M Q) → (∀ s, M s → WpL P r s Q) → WpL P (p ++ r) st Q
  | [], r, st, M, Q, h, hm' => hm' st h
  | c :: p, r, st, M, Q, h, hm' => Wp.mono (Wp.of_vc hm hsp h) (onNormal_mono (fun s hs => vcL_then hm hsp p r s M Q hs hm') fun _ _ he hq => onNormal_ne he hq)
theorem vcL_end (hm : P.follows .mixedOrders = true) (hsp : SpecOk P sp) : ∀ (p : List Code) (st : St) (Q : Exit → St → Prop), vcL τ sp p st Q → WpL P p st Q
  | [], st, Q, h => fun W N0 F β a w hr => ⟨st, β, hr, h⟩
  | c :: p, st, Q, h => Wp.mono (Wp.of_vc hm hsp h) (onNormal_mono (fun s hs => vcL_end hm hsp p s Q hs) fun _ _ _ hq => hq)

/-- Behind a recipe, one of the states 'out y'. -/
def To {Y : Type} (r : Shr) (J : Y → Prop) (out : Y → St) (s : St) : Prop := ∃ y, J y ∧ r.run s = some (out y)
/-- The first k items, then the rest from a smaller state. -/
theorem wpL_cut (hm : P.follows .mixedOrders = true) (hsp : SpecOk P sp) {l : List Code} {st : St} {Q : Exit → St → Prop} (k : Nat) {Y : Type} (r : Shr) (J : Y → Prop) (out : Y → St) (h : vcL τ sp (l.take k) st (onNormal (To r J out) Q))
    (hr : ∀ y, J y → WpL P (l.drop k) (out y) Q) : WpL P l st Q := by
  have := vcL_then hm hsp (l.take k) (l.drop k) st (To r J out) Q h fun s ⟨y, hy, hs⟩ => WpL.weak (r.ok hs) (hr y hy)
  rwa [List.take_append_drop] at this
end

def isLoopBlk : List Code → Bool
  | .block _ (.loop _) :: _ => true
  | _ => false
def blkId : List Code → Nat
  | .block id _ :: _ => id
  | _ => 0
def lpBody : List Code → List Code
  | .block _ (.loop c) :: _ => flat c
  | _ => []
def isBlk : List Code → Bool
  | .block _ _ :: _ => true
  | _ => false
def blkBody : List Code → List Code
  | .block _ c :: _ => flat c
  | _ => []

/-- What a round owes. -/
def loopQ {X Y : Type} (id : Nat) (inv : X → St) (m : X → Nat) (I : X → Prop) (r : Shr) (x : X) (r2 : Shr) (J : Y → Prop) (out : Y → St) (Q : Exit → St → Prop) : Exit → St → Prop := fun e s => match e with
  | .normal => ∃ x', m x' < m x ∧ I x' ∧ r.run s = some (inv x')
  | .exit i => match Nat.beq i id with
    | true => ∃ y, J y ∧ r2.run s = some (out y)
    | false => Q (.exit i) s
  | e => Q e s

theorem wpL_loop {l : List Code} (hl : isLoopBlk l = true) {X Y : Type} (inv : X → St) (m : X → Nat) (I : X → Prop) (r r2 : Shr) (J : Y → Prop) (out : Y → St) {Q : Exit → St → Prop} (x0 : X) (h0 : I x0)
    (hround : ∀ x, I x → WpL P (lpBody l) (inv x) (loopQ (blkId l) inv m I r x r2 J out Q)) (hrest : ∀ y, J y → WpL P l.tail (out y) Q) : WpL P l (inv x0) Q := by
  unfold isLoopBlk at hl
  split at hl
  · rename_i id c rest
    intro W N0 F β a w hr
    refine wp_block ?_
    refine wp_loop_nat (fun n a w => ∃ x β, Rel W N0 F (inv x) β a w ∧ I x ∧ m x = n) ?_ (n := m x0) ⟨x0, β, hr, h0, rfl⟩
    rintro n a w ⟨x, β1, hr1, hI, rfl⟩
    refine wp_mono (wp_flat (hround x hI) W N0 F β1 a w hr1) fun e a' w' hp => ?_
    obtain ⟨s, β', hr', hq⟩ := hp
    cases e with
    | normal =>
      obtain ⟨x', hlt, hI', hs⟩ := hq
      obtain ⟨β2, hr2⟩ := r.ok hs W N0 F β' a' w' hr'
      exact ⟨m x', hlt, x', β2, hr2, hI', rfl⟩
    | exit i =>
      simp only [loopQ, blkId] at hq
      simp only [Exit.then, Exit.inBlock]
      split at hq
      · rename_i hi
        rw [if_pos (Nat.eq_of_beq_eq_true hi)]
        obtain ⟨y, hy, hs⟩ := hq
        obtain ⟨β2, hr2⟩ := r2.ok hs W N0 F β' a' w' hr'
        exact ⟨_, β2, hr2, hrest y hy⟩
      · rename_i hi
        rw [if_neg (fun e => by rw [e] at hi; simp at hi)]
        exact ⟨s, β', hr', hq⟩
    | goto i => exact ⟨s, β', hr', hq⟩
    | ret => exact ⟨s, β', hr', hq⟩
    | panic i => exact ⟨s, β', hr', hq⟩
    | outgrown => exact ⟨s, β', hr', hq⟩
  · cases hl

/-- A block, taken apart. -/
def blkQ {Y : Type} (id : Nat) (r : Shr) (J : Y → Prop) (out : Y → St) (Q : Exit → St → Prop) : Exit → St → Prop := fun e s => match e with
  | .normal => ∃ y, J y ∧ r.run s = some (out y)
  | .exit i => match Nat.beq i id with
    | true => ∃ y, J y ∧ r.run s = some (out y)
    | false => Q (.exit i) s
  | e => Q e s
theorem wpL_block {l : List Code} (hl : isBlk l = true) {Y : Type} {st : St} (r : Shr) (J : Y → Prop) (out : Y → St) {Q : Exit → St → Prop}
    (h : WpL P (blkBody l) st (blkQ (blkId l) r J out Q)) (hrest : ∀ y, J y → WpL P l.tail (out y) Q) : WpL P l st Q := by
  unfold isBlk at hl
  split at hl
  · rename_i id c rest
    intro W N0 F β a w hr
    refine wp_block (wp_mono (wp_flat h W N0 F β a w hr) fun e a' w' hp => ?_)
    obtain ⟨s, β', hr', hq⟩ := hp
    cases e with
    | normal =>
      obtain ⟨y, hy, hs⟩ := hq
      obtain ⟨β2, hr2⟩ := r.ok hs W N0 F β' a' w' hr'
      exact ⟨_, β2, hr2, hrest y hy⟩
    | exit i =>
      simp only [blkQ, blkId] at hq
      simp only [Exit.inBlock]
      split at hq
      · rename_i hi
        rw [if_pos (Nat.eq_of_beq_eq_true hi)]
        obtain ⟨y, hy, hs⟩ := hq
        obtain ⟨β2, hr2⟩ := r.ok hs W N0 F β' a' w' hr'
        exact ⟨_, β2, hr2, hrest y hy⟩
      · rename_i hi
        rw [if_neg (fun e => by rw [e] at hi; simp at hi)]
        exact ⟨s, β', hr', hq⟩
    | goto i => exact ⟨s, β', hr', hq⟩
    | ret => exact ⟨s, β', hr', hq⟩
    | panic i => exact ⟨s, β', hr', hq⟩
    | outgrown => exact ⟨s, β', hr', hq⟩
  · cases hl

/-- A Go function returns what its body's list says. -/
theorem pure_of_wp {f : FuncId} {fn : Func} {c : Code} {τ : Tab} [TabOk P τ] (hf : P.funcs[f]? = some fn) (hb : fn.body = some c) {args : List RV} {x : SV} (hx : boxless x = true) (hn : args.length ≤ fn.ntmps)
    (h : Wp P c (start fn.ntmps args) (Ends τ fn.results x)) : Pure P f args x := by
  intro N w vs hN hargs
  have hrel : Rel w N (fun _ => False) (start fn.ntmps args) ⟨fun _ => 0, fun _ => undef⟩ { tmps := vs.toArray ++ Array.replicate (fn.ntmps - vs.toArray.size) undef, defers := [] } w := by
    refine ⟨Keeps.refl _ _, ?_, rfl, fun s y hy => ?_, fun s g p x hx => (by cases hx), fun i T cs hf => (by cases hf), fun i j hi => (by cases hi), fun i hi => (by cases hi), hN, fun i o hi => (by cases hi), fun i j b hi => (by cases hi), fun i j hi => (by cases hi), fun i hi => (by cases hi)⟩
    · have := hargs.1; simp [start]; omega
    · obtain ⟨r, rfl, _, hr⟩ := startL_mem (findB_mem hy)
      simp only [Nat.sub_zero] at hr
      have hlt : s < vs.length := by rw [hargs.1]; exact (List.getElem?_eq_some_iff.1 hr).1
      refine .d ?_
      have e : tv { tmps := vs.toArray ++ Array.replicate (fn.ntmps - vs.toArray.size) undef, defers := [] } s = vs[s] := by
        unfold tv
        simp [Array.getD_eq_getD_getElem?, Array.getElem?_append, hlt]
      rw [e]
      refine (hargs.2 s r _ hr (List.getElem?_eq_getElem hlt)).less fun b _ hb => ?_
      rcases hb with hb | ⟨i, hi, _⟩ | ⟨i, hi, _⟩
      · exact hb
      · cases hi
      · cases hi
  refine calls_of_wp hf hb (wp_mono (h _ _ _ _ _ _ hrel) fun e a' w' hp => ?_)
  obtain ⟨st', β', hr', he, hres⟩ := hp
  obtain ⟨v, hv, hd⟩ := result_ok (P := P) hr'.freeze hres
  cases e with
  | normal => exact ⟨hr'.defers, v, hv, v, rfl, fun β => (hd.any hx).less fun b _ hb => .inl hb, hr'.keeps.to_below⟩
  | ret => exact ⟨hr'.defers, v, hv, v, rfl, fun β => (hd.any hx).less fun b _ hb => .inl hb, hr'.keeps.to_below⟩
  | exit i => exact he.elim
  | goto l => exact he.elim
  | panic ch => exact he.elim
  | outgrown => exact he.elim
def bodyL (fn : Func) : List Code := flat (bodyOf fn)
theorem pure_list {τ : Tab} [TabOk P τ] {f : FuncId} (fn : Func) (hf : P.funcs[f]? = some fn) (hb : hasBody fn = true) {args : List RV} {x : SV} (hx : boxless x = true) (hn : Nat.ble args.length fn.ntmps = true)
    (h : WpL P (bodyL fn) (start fn.ntmps args) (Ends τ fn.results x)) : Pure P f args x := by
  unfold hasBody at hb
  cases hc : fn.body with
  | none => rw [hc] at hb; cases hb
  | some c =>
    refine pure_of_wp (τ := τ) hf hc hx (Nat.le_of_ble_eq_true hn) ?_
    unfold bodyL bodyOf at h
    rw [hc] at h
    exact wp_flat h
/-- One function at once. -/
theorem pure_vc {τ : Tab} [TabOk P τ] {sp : Spec} (hm : P.follows .mixedOrders = true) (hsp : SpecOk P sp) {f : FuncId} (fn : Func) (hf : P.funcs[f]? = some fn) (hb : hasBody fn = true) {args : List RV} {x : SV} (hx : boxless x = true) (hn : Nat.ble args.length fn.ntmps = true)
    {E : Prop} (key : E) (he : E = vcL τ sp (bodyL fn) (start fn.ntmps args) (Ends τ fn.results x)) : Pure P f args x :=
  pure_list (τ := τ) fn hf hb hx hn (vcL_end (τ := τ) hm hsp _ _ _ (he ▸ key))
/-- The end of a body, by its result. -/
abbrev Fin (y x : SV) : Prop := True ∧ some y = some x
theorem fin_of {y x : SV} (h : y = x) : Fin y x := ⟨trivial, h ▸ rfl⟩
end
end Go.Sim
