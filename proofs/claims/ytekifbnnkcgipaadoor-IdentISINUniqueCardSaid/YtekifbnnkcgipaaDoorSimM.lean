/- Whole bodies: what must be shown so that a Go function returns what is said. Conditions: none. -/
import Derived.Test.YtekifbnnkcgipaaDoorSimL
namespace Go.Sim
open Go.RowKit (Below)

/-- Whatever st stands for, st' stands for, too. -/
def Weaker (st st' : St) : Prop := ∀ (W : World) (N0 F : Nat → Prop) (β : Envr) (a : Act) (w : World), Rel W N0 F st β a w → ∃ β', Rel W N0 F st' β' a w

def loopVC (body : St → (Exit → St → Prop) → Prop) (st : St) (Q : Exit → St → Prop) : Prop :=
  ∃ I : Nat → St → Prop, (∃ n s, Weaker st s ∧ I n s) ∧ ∀ n s, I n s → body s (fun e s' => match e with
    | .normal => ∃ m s2, m < n ∧ Weaker s' s2 ∧ I m s2
    | e => Q e s')

def vcRegion (τ : Tab) (sp : Spec) (ops : Array Oper) (draw : Bool) (st : St) (K : St → Prop) : Prop :=
  match draw with
  | true => vcDraw τ sp ops st (fun s => K s.clean)
  | false => vcOps τ sp ops ops.toList st (fun s => K s.clean)

def vc (τ : Tab) (sp : Spec) : Code → St → (Exit → St → Prop) → Prop
  | .skip, st, Q => Q .normal st
  | .seq x y, st, Q => vc τ sp x st (fun e s => match e with
    | .normal => vc τ sp y s Q
    | e => Q e s)
  | .cond c x y, st, Q => match st.look [] c with
    | some (.d (.val (.bool b))) => (b = true → vc τ sp x st Q) ∧ (b = false → vc τ sp y st Q)
    | _ => False
  | .block id x, st, Q => vc τ sp x st (fun e s => match e with
    | .exit i => match Nat.beq i id with
      | true => Q .normal s
      | false => Q (.exit i) s
    | e => Q e s)
  | .exit id, st, Q => Q (.exit id) st
  | .ret, st, Q => Q .ret st
  | .region _ ops draw, st, Q => vcRegion τ sp ops draw st (Q .normal)
  | .loop x, st, Q => loopVC (vc τ sp x) st Q
  | _, _, _ => False

/-- A loop by a relation that bears its own measure. -/
theorem wp_loop_nat {P : Program} {c : Code} {Q : Exit → Act → World → Prop} (I : Nat → Act → World → Prop) (round : ∀ n a w, I n a w → c.wp P (Exit.then (fun a' w' => ∃ m, m < n ∧ I m a' w') Q) a w)
    {n : Nat} {a : Act} {w : World} (h₀ : I n a w) : (Code.loop c).wp P Q a w := by
  intro b k cs
  have key : ∀ n a w, I n a w → ∃ e a' w', Q e a' w' ∧ Arrives P (lone (b.at a (.code c :: .inLoop c :: k)) cs w) b k cs e a' w' := by
    intro n
    induction n using Nat.strongRecOn with
    | _ n ih =>
      intro a w hI
      obtain ⟨e, a₁, w₁, hq, harr⟩ := round n a w hI b (.inLoop c :: k) cs
      cases e with
      | normal =>
        obtain ⟨m, hlt, hI₁⟩ := hq
        obtain ⟨e₂, a₂, w₂, hq₂, harr₂⟩ := ih m hlt a₁ w₁ hI₁
        exact ⟨e₂, a₂, w₂, hq₂, .of_steps (Steps.trans harr (.one step_inLoop)) harr₂⟩
      | exit id => exact ⟨_, a₁, w₁, hq, .pass (x := .inLoop c) rfl (fun _ _ => .inl (by simp)) harr⟩
      | goto l => exact ⟨_, a₁, w₁, hq, .pass (x := .inLoop c) rfl (fun _ _ => .inl (by simp)) harr⟩
      | ret => exact ⟨_, a₁, w₁, hq, .pass (x := .inLoop c) rfl (fun _ _ => .inl (by simp)) harr⟩
      | panic ch => exact ⟨_, a₁, w₁, hq, .pass (x := .inLoop c) rfl (fun _ _ => .inl (by simp)) harr⟩
      | outgrown => exact ⟨_, a₁, w₁, hq, .pass (x := .inLoop c) rfl (fun _ _ => .inl (by simp)) harr⟩
  obtain ⟨e, a', w', hq, harr⟩ := key _ a w h₀
  exact ⟨e, a', w', hq, .of_steps (.one step_loop) harr⟩

/-- The frame's post: a state that stands for frame and world, with what Q says of it. -/
def Post (W : World) (N0 F : Nat → Prop) (Q : Exit → St → Prop) : Exit → Act → World → Prop := fun e a w => ∃ st β, Rel W N0 F st β a w ∧ Q e st

section
variable {P : Program} {τ : Tab} [TabOk P τ] {sp : Spec} {W : World} {N0 F : Nat → Prop}

theorem drawTry_ok (hm : P.follows .mixedOrders = true) (hsp : SpecOk P sp) {id : Nat} {ops : Array Oper} {st : St} {ps : List Prop} {s1 : St} (h : drawTry τ sp ops st = some (ps, s1)) (hp : ∀ p ∈ ps, p) {β : Envr} {a : Act} {w : World} (hr : Rel W N0 F st β a w)
    {Q : Exit → Act → World → Prop} (hQ : ∀ a' w', Rel W N0 F s1 β a' w' → Q .normal a' w') : (Code.region id ops true).wp P Q a w := by
  unfold drawTry at h
  split at h
  · rename_i hok
    simp only [Bool.and_eq_true] at hok
    split at h
    · rename_i ps rs hrun
      split at h
      · rename_i hno
        simp only [Option.some.injEq, Prod.mk.injEq] at h
        obtain ⟨rfl, rfl⟩ := h
        obtain ⟨xs, h1, h2, h3⟩ := drawRun_spec _ _ _ _ _ hrun
        simp only [List.append_nil] at h2
        subst h2
        refine wp_region_any hm (draw_ok (τ := τ) (β := β) (xs := xs) hsp hr hok.1 (by simpa using h1) (fun k o ho => ?_) hno (fun a' w' hr' => hQ a' w' hr') ops.size _ a _ ?_ ?_)
        · obtain ⟨ps', x, d, a1, a2, a3, a4⟩ := h3 k o (by simpa using ho)
          exact ⟨ps', x, d, a1, a2, by simpa using a3, fun p hpm => hp p (a4 p hpm)⟩
        · have hb : Below w.heap.size w { w with drawn := w.drawn + 1 } := (Below.refl _ w).drew
          have hr' := hr.below hb
          refine ⟨hr'.keeps, hr'.size, hr'.defers, hr'.boxes, fun k d x hk hl => ?_, fun s y hm' _ => hr'.slots s y hm', fun k o _ hl => ?_, by simp, hr'.owns⟩
          · rw [show (Array.replicate ops.size false).getD k false = false by simp [Array.getD]] at hl; cases hl
          · rw [show (Array.replicate ops.size false).getD k false = false by simp [Array.getD]] at hl; cases hl
        · have := List.countP_le_length (p := fun i => !(Array.replicate ops.size false).getD i true) (l := List.range ops.size)
          simpa using this
      · cases h
    · cases h
  · cases h

theorem vcRegion_ok (hm : P.follows .mixedOrders = true) (hsp : SpecOk P sp) {id : Nat} {ops : Array Oper} {draw : Bool} {st : St} {K : St → Prop} (h : vcRegion τ sp ops draw st K) {β : Envr} {a : Act} {w : World} (hr : Rel W N0 F st β a w)
    {Q : Exit → Act → World → Prop} (hQ : ∀ st' β' a' w', Rel W N0 F st' β' a' w' → K st' → Q .normal a' w') : (Code.region id ops draw).wp P Q a w := by
  cases draw with
  | false =>
    simp only [vcRegion] at h
    exact wp_region_list (vcOps_ok hsp ops.toList st _ β a w h hr fun st' β' a' w' hr' hk => hQ _ β' a' w' hr'.clean hk)
  | true =>
    simp only [vcRegion, vcDraw] at h
    split at h
    · rename_i ps s1 hs
      obtain ⟨hp, hk⟩ := conj_of h
      exact drawTry_ok hm hsp hs hp hr fun a' w' hr' => hQ _ β a' w' hr'.clean hk
    · split at h
      · rename_i ps s1 hs
        obtain ⟨hp, hk⟩ := conj_of h
        exact drawTry_ok hm hsp hs hp hr.freeze fun a' w' hr' => hQ _ β a' w' hr'.clean hk
      · exact h.elim

theorem vc_ok (hm : P.follows .mixedOrders = true) (hsp : SpecOk P sp) : ∀ (c : Code) (st : St) (Q : Exit → St → Prop), vc τ sp c st Q → ∀ (β : Envr) (a : Act) (w : World), Rel W N0 F st β a w → c.wp P (Post W N0 F Q) a w := by
  intro c
  induction c with
  | skip => intro st Q h β a w hr; exact wp_skip ⟨st, β, hr, h⟩
  | region id ops draw => intro st Q h β a w hr; exact vcRegion_ok hm hsp h hr fun st' β' a' w' hr' hk => ⟨st', β', hr', hk⟩
  | seq x y ihx ihy =>
    intro st Q h β a w hr
    refine wp_seq (wp_mono (ihx st _ h β a w hr) fun e a' w' hp => ?_)
    obtain ⟨st', β', hr', hq⟩ := hp
    cases e with
    | normal => exact ihy st' Q hq β' a' w' hr'
    | exit id => exact ⟨st', β', hr', hq⟩
    | goto l => exact ⟨st', β', hr', hq⟩
    | ret => exact ⟨st', β', hr', hq⟩
    | panic ch => exact ⟨st', β', hr', hq⟩
    | outgrown => exact ⟨st', β', hr', hq⟩
  | cond c x y ihx ihy =>
    intro st Q h β a w hr
    simp only [vc] at h
    split at h
    · rename_i b hb
      have hv := (St.look_ok hr (fun gp hgp => by cases hgp) hb).val
      refine wp_cond_split hv (fun hb => ?_) (fun hb => ?_)
      · exact ihx st Q (h.1 hb) β a w hr
      · exact ihy st Q (h.2 hb) β a w hr
    · exact h.elim
  | block id x ih =>
    intro st Q h β a w hr
    refine wp_block (wp_mono (ih st _ h β a w hr) fun e a' w' hp => ?_)
    obtain ⟨st', β', hr', hq⟩ := hp
    cases e with
    | normal => exact ⟨st', β', hr', hq⟩
    | exit i =>
      simp only at hq
      simp only [Exit.inBlock]
      split at hq
      · rename_i hi
        rw [if_pos (Nat.eq_of_beq_eq_true hi)]
        exact ⟨st', β', hr', hq⟩
      · rename_i hi
        rw [if_neg (fun e => by rw [e] at hi; simp at hi)]
        exact ⟨st', β', hr', hq⟩
    | goto l => exact ⟨st', β', hr', hq⟩
    | ret => exact ⟨st', β', hr', hq⟩
    | panic ch => exact ⟨st', β', hr', hq⟩
    | outgrown => exact ⟨st', β', hr', hq⟩
  | loop x ih =>
    intro st Q h β a w hr
    obtain ⟨I, ⟨n0, s0, hw0, hI0⟩, hround⟩ := h
    obtain ⟨β0, hr0⟩ := hw0 W N0 F β a w hr
    refine wp_loop_nat (fun n a w => ∃ st β, Rel W N0 F st β a w ∧ I n st) ?_ (n := n0) ⟨s0, β0, hr0, hI0⟩
    rintro n a w ⟨s, β1, hr1, hI1⟩
    refine wp_mono (ih s _ (hround n s hI1) β1 a w hr1) fun e a' w' hp => ?_
    obtain ⟨st', β', hr', hq⟩ := hp
    cases e with
    | normal =>
      obtain ⟨m, s2, hlt, hwk, hI2⟩ := hq
      obtain ⟨β2, hr2⟩ := hwk W N0 F β' a' w' hr'
      exact ⟨m, hlt, s2, β2, hr2, hI2⟩
    | exit i => exact ⟨st', β', hr', hq⟩
    | goto l => exact ⟨st', β', hr', hq⟩
    | ret => exact ⟨st', β', hr', hq⟩
    | panic ch => exact ⟨st', β', hr', hq⟩
    | outgrown => exact ⟨st', β', hr', hq⟩
  | exit id => intro st Q h β a w hr; exact wp_exit ⟨st, β, hr, h⟩
  | ret => intro st Q h β a w hr; exact wp_ret ⟨st, β, hr, h⟩
  | rangeFunc f ps as b iha ihb => intro st Q h; exact h.elim
  | scope b ih => intro st Q h; exact h.elim
  | label l => intro st Q h; exact h.elim
  | goto l => intro st Q h; exact h.elim
  | refuse why => intro st Q h; exact h.elim

/-- What a result variable holds. -/
def resOf (τ : Tab) (st : St) : ResultVar → Option SV
  | .tmp t => match findB st.sl t with
    | some (.grd _ _ _) => none
    | r => r
  | .cell a T => match findB st.sl a with
    | some x => match evLoad τ st.bx T x with
      | some ([], y) => some y
      | _ => none
    | none => none

def resL (τ : Tab) (st : St) : List ResultVar → Option (List SV)
  | [] => some []
  | r :: l => match resOf τ st r, resL τ st l with
    | some x, some xs => some (x :: xs)
    | _, _ => none

/-- What the call returns. -/
def result (τ : Tab) (st : St) (rs : Array ResultVar) : Option SV :=
  match resL τ st rs.toList with
  | some [x] => some x
  | some xs => some (.tup xs)
  | none => none

/-- A result variable as the model reads it. -/
def resM (a : Act) : ResultVar → Sem Value
  | .tmp t => pure (a.tmps.getD t undef)
  | .cell b T => do loadVar T (← asAddr (a.tmps.getD b undef))

theorem resOf_ok {st : St} {β : Envr} {a : Act} {w : World} (hr : Rel W N0 F st β a w) {r : ResultVar} {x : SV} (h : resOf τ st r = some x) :
    ∃ v, (resM a r).run P w = .ok v w ∧ SDen β (NB N0 β st.bx st.ow) w x v := by
  unfold resOf at h
  cases r with
  | tmp t =>
    simp only at h
    cases hf : findB st.sl t with
    | none => rw [hf] at h; cases h
    | some y =>
      rw [hf] at h
      have hs := hr.slots t y hf
      cases y with
      | grd g p z => cases h
      | d z => simp only [Option.some.injEq] at h; subst h; exact ⟨_, rfl, hs⟩
      | loc i o => simp only [Option.some.injEq] at h; subst h; exact ⟨_, rfl, hs⟩
      | elem sz n f i o => simp only [Option.some.injEq] at h; subst h; exact ⟨_, rfl, hs⟩
      | tup l => simp only [Option.some.injEq] at h; subst h; exact ⟨_, rfl, hs⟩
      | own i => simp only [Option.some.injEq] at h; subst h; exact ⟨_, rfl, hs⟩
  | cell b T =>
    simp only at h
    cases hf : findB st.sl b with
    | none => rw [hf] at h; cases h
    | some y =>
      rw [hf] at h
      simp only at h
      split at h
      · rename_i z hl
        simp only [Option.some.injEq] at h; subst h
        have hd : SDen β (NB N0 β st.bx st.ow) w y (tv a b) := hr.slots b y hf
        obtain ⟨v, hv, hx⟩ := evLoad_ok (P := P) hr.boxes hl hd
        refine ⟨v, ?_, hx⟩
        show (do loadVar T (← asAddr (tv a b)) : Sem Value).run P w = .ok v w
        generalize tv a b = u at *
        cases hd with
        | d hd => cases hl
        | loc i off => simpa [Instr.loadAt, Instr.sureAddr, asAddr] using hv
        | elem => simpa [Instr.loadAt, Instr.sureAddr, asAddr] using hv
        | tup => cases hl
        | own => cases hl
      · cases h

theorem resL_ok {st : St} {β : Envr} {a : Act} {w : World} (hr : Rel W N0 F st β a w) : ∀ (rs : List ResultVar) (xs : List SV), resL τ st rs = some xs →
    ∃ vs : List Value, (rs.mapM (resM a)).run P w = .ok vs w ∧ vs.length = xs.length ∧ ∀ (j : Nat) x v, xs[j]? = some x → vs[j]? = some v → SDen β (NB N0 β st.bx st.ow) w x v
  | [], xs, h => by simp [resL] at h; subst h; exact ⟨[], by simp, rfl, fun j x v hx => by simp at hx⟩
  | r :: rs, xs, h => by
    simp only [resL] at h
    split at h
    · rename_i x ys h1 h2
      simp only [Option.some.injEq] at h; subst h
      obtain ⟨v, hv, hx⟩ := resOf_ok (P := P) hr h1
      obtain ⟨vs, hvs, hl, hd⟩ := resL_ok hr rs ys h2
      refine ⟨v :: vs, ?_, by simp [hl], fun j x' v' hx' hv' => ?_⟩
      · rw [List.mapM_cons]
        simp [hvs, hv]
      · cases j with
        | zero => simp at hx' hv'; subst hx'; subst hv'; exact hx
        | succ j => exact hd j x' v' (by simpa using hx') (by simpa using hv')
    · cases h

theorem result_ok {st : St} {β : Envr} {a : Act} {w : World} (hr : Rel W N0 F st β a w) {fn : Func} {x : SV} (h : result τ st fn.results = some x) :
    ∃ v, (results fn a.tmps).run P w = .ok v w ∧ SDen β (NB N0 β st.bx st.ow) w x v := by
  unfold result at h
  have harr : ∀ vs : List Value, (fn.results.toList.mapM (resM a)).run P w = .ok vs w →
      (results fn a.tmps).run P w = .ok (if h : vs.toArray.size = 1 then vs.toArray[0] else .tuple vs.toArray) w := by
    intro vs hvs
    have e : results fn a.tmps = (do let vs ← fn.results.mapM (resM a); pure (if h : vs.size = 1 then vs[0] else .tuple vs)) := by
      have hf : (fun r => match r with | .tmp t => (pure (a.tmps.getD t undef) : Sem Value) | .cell b T => do loadVar T (← asAddr (a.tmps.getD b undef))) = resM a := by
        funext r; cases r <;> rfl
      rw [← hf]
      rfl
    rw [e, Array.mapM_eq_mapM_toList]
    simp only [Sem.run_bind, Sem.run_map, hvs, Result.andThen_ok, Sem.run_pure]
  split at h
  · rename_i y hy
    simp only [Option.some.injEq] at h; subst h
    obtain ⟨vs, hvs, hl, hd⟩ := resL_ok (P := P) hr _ _ hy
    refine ⟨_, harr vs hvs, ?_⟩
    match vs, hl with
    | [v], _ => exact hd 0 _ _ rfl rfl
  · rename_i ys hne hy
    simp only [Option.some.injEq] at h; subst h
    obtain ⟨vs, hvs, hl, hd⟩ := resL_ok (P := P) hr _ _ hy
    refine ⟨_, harr vs hvs, ?_⟩
    rw [dif_neg ?_]
    · exact .tup _ _ hl hd
    · intro h1
      have : ys.length = 1 := by rw [← hl]; simpa using h1
      match ys, this with
      | [z], _ => exact hne z rfl
  · cases h

/-- The state in which a body begins. -/
def startL : Nat → List RV → List (Nat × SV)
  | _, [] => []
  | k, x :: l => (k, .d x) :: startL (k + 1) l
def start (n : Nat) (args : List RV) : St := ⟨n, startL 0 args, [], [], [], 0⟩

theorem startL_mem : ∀ {l : List RV} {k s : Nat} {x : SV}, (s, x) ∈ startL k l → ∃ r, x = .d r ∧ k ≤ s ∧ l[s - k]? = some r
  | y :: l, k, s, x, h => by
    simp only [startL] at h
    rcases List.mem_cons.1 h with h | h
    · obtain ⟨rfl, rfl⟩ := Prod.mk.inj h
      exact ⟨y, rfl, Nat.le_refl _, by simp⟩
    · obtain ⟨r, h1, h2, h3⟩ := startL_mem h
      refine ⟨r, h1, by omega, ?_⟩
      rw [show s - k = (s - (k + 1)) + 1 by omega]
      simpa using h3

/-- The end of a body: what is returned, and that it names no box. -/
def Ends (τ : Tab) (rs : Array ResultVar) (x : SV) : Exit → St → Prop := fun e st =>
  (match e with | .ret => True | .normal => True | _ => False) ∧ result τ st.freeze rs = some x

/-- A result that stands for the same under any numbering of boxes. -/
def boxless : SV → Bool
  | .d _ => true
  | .tup l => boxlessL l
  | _ => false
where
  boxlessL : List SV → Bool
    | [] => true
    | x :: l => boxless x && boxlessL l

theorem boxlessL_mem : ∀ {l : List SV} {x : SV}, boxless.boxlessL l = true → x ∈ l → boxless x = true
  | y :: l, x, h, hx => by
    simp only [boxless.boxlessL, Bool.and_eq_true] at h
    rcases List.mem_cons.1 hx with rfl | hx
    · exact h.1
    · exact boxlessL_mem h.2 hx

theorem SDen.any {β β' : Envr} {N : Nat → Prop} {w : World} {x : SV} {v : Value} (h : SDen β N w x v) (hx : boxless x = true) : SDen β' N w x v := by
  induction h with
  | d h => exact .d h
  | loc i off => cases hx
  | elem => cases hx
  | own i => cases hx
  | tup l vs hl hd ih => exact .tup l vs hl fun j x v hj hv => ih j x v hj hv (boxlessL_mem hx (List.mem_of_getElem? hj))

/-- A Go function returns what its body's conditions say. -/
theorem pure_of_vc (hm : P.follows .mixedOrders = true) (hsp : SpecOk P sp) {f : FuncId} {fn : Func} {c : Code} (hf : P.funcs[f]? = some fn) (hb : fn.body = some c) {args : List RV} {x : SV} (hx : boxless x = true) (hn : args.length ≤ fn.ntmps)
    (h : vc τ sp c (start fn.ntmps args) (Ends τ fn.results x)) : Pure P f args x := by
  intro N w vs hN hargs
  have hrel : Rel w N (fun _ => False) (start fn.ntmps args) ⟨fun _ => 0, fun _ => undef⟩ { tmps := vs.toArray ++ Array.replicate (fn.ntmps - vs.toArray.size) undef, defers := [] } w := by
    refine ⟨Keeps.refl _ _, ?_, rfl, fun s y hy => ?_, fun s g p x hx => (by cases hx), fun i T cs hf => (by cases hf), fun i j hi => (by cases hi), fun i hi => (by cases hi), hN, fun i o hi => (by cases hi), fun i j b hi => (by cases hi), fun i j hi => (by cases hi), fun i hi => (by cases hi)⟩
    · have := hargs.1; simp [start]; omega
    · obtain ⟨r, rfl, _, hr⟩ := startL_mem (findB_mem hy)
      simp only [Nat.sub_zero] at hr
      have hlt : s < vs.length := by rw [hargs.1]; exact (List.getElem?_eq_some_iff.1 hr).1
      refine .d ?_
      have e : tv { tmps := vs.toArray ++ Array.replicate (fn.ntmps - vs.toArray.size) undef, defers := [] } s = vs[s] := by
        unfold tv
        simp [Array.getD_eq_getD_getElem?, Array.getElem?_append, hlt]
      rw [e]
      refine (hargs.2 s r _ hr (List.getElem?_eq_getElem hlt)).less fun b _ hb => ?_
      rcases hb with hb | ⟨i, hi, _⟩ | ⟨i, hi, _⟩
      · exact hb
      · cases hi
      · cases hi
  refine calls_of_wp hf hb (wp_mono (vc_ok hm hsp c _ _ h _ _ _ hrel) fun e a' w' hp => ?_)
  obtain ⟨st', β', hr', he, hres⟩ := hp
  obtain ⟨v, hv, hd⟩ := result_ok (P := P) hr'.freeze hres
  have fin : ∃ v, Ending.returned v = .returned v ∧ (∀ β, SDen β N w' x v) ∧ Below w.heap.size w w' := ⟨v, rfl, fun β => (hd.any hx).less fun b _ hb => .inl hb, hr'.keeps.to_below⟩
  cases e with
  | normal => exact ⟨hr'.defers, v, hv, v, rfl, fun β => (hd.any hx).less fun b _ hb => .inl hb, hr'.keeps.to_below⟩
  | ret => exact ⟨hr'.defers, v, hv, v, rfl, fun β => (hd.any hx).less fun b _ hb => .inl hb, hr'.keeps.to_below⟩
  | exit i => exact he.elim
  | goto l => exact he.elim
  | panic ch => exact he.elim
  | outgrown => exact he.elim

/-- The same, the body taken out of the function. -/
def bodyOf (fn : Func) : Code := fn.body.getD .skip
def hasBody (fn : Func) : Bool := fn.body.isSome
theorem pure_fn (hm : P.follows .mixedOrders = true) (hsp : SpecOk P sp) {f : FuncId} (fn : Func) (hf : P.funcs[f]? = some fn) (hb : hasBody fn = true) {args : List RV} {x : SV} (hx : boxless x = true) (hn : Nat.ble args.length fn.ntmps = true)
    (h : vc τ sp (bodyOf fn) (start fn.ntmps args) (Ends τ fn.results x)) : Pure P f args x := by
  unfold hasBody at hb
  cases hc : fn.body with
  | none => rw [hc] at hb; cases hb
  | some c =>
    refine pure_of_vc (τ := τ) hm hsp hf hc hx (Nat.le_of_ble_eq_true hn) ?_
    unfold bodyOf at h
    rw [hc] at h
    exact h

/-- No call is answered. -/
def noSpec : Spec := fun _ _ => none
theorem noSpec_ok : SpecOk P noSpec := fun g args ps x h => by cases h

end
end Go.Sim
