/- Whole bodies: what must be shown so that a Go function returns what is said. Conditions: none. Tables of contracts; states made smaller. Conditions: none. A row that the call owns, across the rounds of a loop. Conditions: none. Some boxes, turned into data. Conditions: none. Bodies piece by piece: cuts, blocks and loops over code laid out as a list; states made smaller by a recipe. Conditions: none. -/
import Derived.Test.YtekifbnnkcgipaaDoorSimT
namespace Go.Sim
open Go.RowKit (Below)

/-- Whatever st stands for, st' stands for, too. -/
def Weaker (st st' : St) : Prop := ∀ (W : World) (N0 F : Nat → Prop) (β : Envr) (a : Act) (w : World), Rel W N0 F st β a w → ∃ β', Rel W N0 F st' β' a w

def loopVC (body : St → (Exit → St → Prop) → Prop) (st : St) (Q : Exit → St → Prop) : Prop :=
  ∃ I : Nat → St → Prop, (∃ n s, Weaker st s ∧ I n s) ∧ ∀ n s, I n s → body s (fun e s' => match e with
    | .normal => ∃ m s2, m < n ∧ Weaker s' s2 ∧ I m s2
    | e => Q e s')

def vcDraw (τ : Tab) (sp : Spec) (ops : Array Oper) (st : St) (K : St → Prop) : Prop :=
  match drawTry τ sp ops st with
  | some (ps, st') => conj ps (K st')
  | none => match drawTry τ sp ops st.freeze with
    | some (ps, st') => conj ps (K st')
    | none => match drawTry τ sp ops st.freeze.freezeX with
      | some (ps, st') => conj ps (K st')
      | none => match dTry τ sp ops st with
        | some (ps, st') => conj ps (K st')
        | none => match dTry τ sp ops st.freezeX with
          | some (ps, st') => conj ps (K st')
          | none => False

def vcRegion (τ : Tab) (sp : Spec) (ops : Array Oper) (draw : Bool) (st : St) (K : St → Prop) : Prop :=
  match draw with
  | true => vcDraw τ sp ops st (fun s => K s.clean)
  | false => vcOps τ sp ops ops.toList st (fun s => K s.clean)

def vc (τ : Tab) (sp : Spec) : Code → St → (Exit → St → Prop) → Prop
  | .skip, st, Q => Q .normal st
  | .seq x y, st, Q => vc τ sp x st (fun e s => match e with
    | .normal => vc τ sp y s Q
    | e => Q e s)
  | .cond c x y, st, Q => match st.look [] c with
    | some (.d (.val (.bool b))) => (b = true → vc τ sp x st Q) ∧ (b = false → vc τ sp y st Q)
    | _ => False
  | .block id x, st, Q => vc τ sp x st (fun e s => match e with
    | .exit i => match Nat.beq i id with
      | true => Q .normal s
      | false => Q (.exit i) s
    | e => Q e s)
  | .exit id, st, Q => Q (.exit id) st
  | .ret, st, Q => Q .ret st
  | .region _ ops draw, st, Q => vcRegion τ sp ops draw st (Q .normal)
  | .loop x, st, Q => loopVC (vc τ sp x) st Q
  | _, _, _ => False

/-- A loop by a relation that bears its own measure. -/
theorem wp_loop_nat {P : Program} {c : Code} {Q : Exit → Act → World → Prop} (I : Nat → Act → World → Prop) (round : ∀ n a w, I n a w → c.wp P (Exit.then (fun a' w' => ∃ m, m < n ∧ I m a' w') Q) a w)
    {n : Nat} {a : Act} {w : World} (h₀ : I n a w) : (Code.loop c).wp P Q a w := by
  intro b k cs
  have key : ∀ n a w, I n a w → ∃ e a' w', Q e a' w' ∧ Arrives P (lone (b.at a (.code c :: .inLoop c :: k)) cs w) b k cs e a' w' := by
    intro n
    induction n using Nat.strongRecOn with
    | _ n ih =>
      intro a w hI
      obtain ⟨e, a₁, w₁, hq, harr⟩ := round n a w hI b (.inLoop c :: k) cs
      cases e with
      | normal =>
        obtain ⟨m, hlt, hI₁⟩ := hq
        obtain ⟨e₂, a₂, w₂, hq₂, harr₂⟩ := ih m hlt a₁ w₁ hI₁
        exact ⟨e₂, a₂, w₂, hq₂, .of_steps (Steps.trans harr (.one step_inLoop)) harr₂⟩
      | exit id => exact ⟨_, a₁, w₁, hq, .pass (x := .inLoop c) rfl (fun _ _ => .inl (by simp)) harr⟩
      | goto l => exact ⟨_, a₁, w₁, hq, .pass (x := .inLoop c) rfl (fun _ _ => .inl (by simp)) harr⟩
      | ret => exact ⟨_, a₁, w₁, hq, .pass (x := .inLoop c) rfl (fun _ _ => .inl (by simp)) harr⟩
      | panic ch => exact ⟨_, a₁, w₁, hq, .pass (x := .inLoop c) rfl (fun _ _ => .inl (by simp)) harr⟩
      | outgrown => exact ⟨_, a₁, w₁, hq, .pass (x := .inLoop c) rfl (fun _ _ => .inl (by simp)) harr⟩
  obtain ⟨e, a', w', hq, harr⟩ := key _ a w h₀
  exact ⟨e, a', w', hq, .of_steps (.one step_loop) harr⟩

/-- The frame's post: a state that stands for frame and world, with what Q says of it. -/
def Post (W : World) (N0 F : Nat → Prop) (Q : Exit → St → Prop) : Exit → Act → World → Prop := fun e a w => ∃ st β, Rel W N0 F st β a w ∧ Q e st

section
variable {P : Program} {τ : Tab} [TabOk P τ] {sp : Spec} {W : World} {N0 F : Nat → Prop}

theorem drawTry_ok (hm : P.follows .mixedOrders = true) (hsp : SpecOk P sp) {id : Nat} {ops : Array Oper} {st : St} {ps : List Prop} {s1 : St} (h : drawTry τ sp ops st = some (ps, s1)) (hp : ∀ p ∈ ps, p) {β : Envr} {a : Act} {w : World} (hr : Rel W N0 F st β a w)
    {Q : Exit → Act → World → Prop} (hQ : ∀ a' w', Rel W N0 F s1 β a' w' → Q .normal a' w') : (Code.region id ops true).wp P Q a w := by
  unfold drawTry at h
  split at h
  · rename_i hok
    simp only [Bool.and_eq_true] at hok
    split at h
    · rename_i ps rs hrun
      split at h
      · rename_i hno
        simp only [Option.some.injEq, Prod.mk.injEq] at h
        obtain ⟨rfl, rfl⟩ := h
        obtain ⟨xs, h1, h2, h3⟩ := drawRun_spec _ _ _ _ _ hrun
        simp only [List.append_nil] at h2
        subst h2
        refine wp_region_any hm (draw_ok (τ := τ) (β := β) (xs := xs) hsp hr hok.1 (by simpa using h1) (fun k o ho => ?_) hno (fun a' w' hr' => hQ a' w' hr') ops.size _ a _ ?_ ?_)
        · obtain ⟨ps', x, d, a1, a2, a3, a4⟩ := h3 k o (by simpa using ho)
          exact ⟨ps', x, d, a1, a2, by simpa using a3, fun p hpm => hp p (a4 p hpm)⟩
        · have hb : Below w.heap.size w { w with drawn := w.drawn + 1 } := (Below.refl _ w).drew
          have hr' := hr.below hb
          refine ⟨hr'.keeps, hr'.size, hr'.defers, hr'.boxes, fun k d x hk hl => ?_, fun s y hm' _ => hr'.slots s y hm', fun k o _ hl => ?_, by simp, hr'.owns⟩
          · rw [show (Array.replicate ops.size false).getD k false = false by simp [Array.getD]] at hl; cases hl
          · rw [show (Array.replicate ops.size false).getD k false = false by simp [Array.getD]] at hl; cases hl
        · have := List.countP_le_length (p := fun i => !(Array.replicate ops.size false).getD i true) (l := List.range ops.size)
          simpa using this
      · cases h
    · cases h
  · cases h

theorem vcRegion_ok (hm : P.follows .mixedOrders = true) (hsp : SpecOk P sp) {id : Nat} {ops : Array Oper} {draw : Bool} {st : St} {K : St → Prop} (h : vcRegion τ sp ops draw st K) {β : Envr} {a : Act} {w : World} (hr : Rel W N0 F st β a w)
    {Q : Exit → Act → World → Prop} (hQ : ∀ st' β' a' w', Rel W N0 F st' β' a' w' → K st' → Q .normal a' w') : (Code.region id ops draw).wp P Q a w := by
  cases draw with
  | false =>
    simp only [vcRegion] at h
    exact wp_region_list (vcOps_ok hsp ops.toList st _ β a w h hr fun st' β' a' w' hr' hk => hQ _ β' a' w' hr'.clean hk)
  | true =>
    simp only [vcRegion, vcDraw] at h
    split at h
    · rename_i ps s1 hs
      obtain ⟨hp, hk⟩ := conj_of h
      exact drawTry_ok hm hsp hs hp hr fun a' w' hr' => hQ _ β a' w' hr'.clean hk
    · split at h
      · rename_i ps s1 hs
        obtain ⟨hp, hk⟩ := conj_of h
        exact drawTry_ok hm hsp hs hp hr.freeze fun a' w' hr' => hQ _ β a' w' hr'.clean hk
      · split at h
        · rename_i ps s1 hs
          obtain ⟨hp, hk⟩ := conj_of h
          exact drawTry_ok hm hsp hs hp hr.freeze.freezeX fun a' w' hr' => hQ _ β a' w' hr'.clean hk
        · split at h
          · rename_i ps s1 hs
            obtain ⟨hp, hk⟩ := conj_of h
            exact dTry_ok hm hsp hs hp hr fun β' a' w' hr' => hQ _ β' a' w' hr'.clean hk
          · split at h
            · rename_i ps s1 hs
              obtain ⟨hp, hk⟩ := conj_of h
              exact dTry_ok hm hsp hs hp hr.freezeX fun β' a' w' hr' => hQ _ β' a' w' hr'.clean hk
            · exact h.elim

theorem vc_ok (hm : P.follows .mixedOrders = true) (hsp : SpecOk P sp) : ∀ (c : Code) (st : St) (Q : Exit → St → Prop), vc τ sp c st Q → ∀ (β : Envr) (a : Act) (w : World), Rel W N0 F st β a w → c.wp P (Post W N0 F Q) a w := by
  intro c
  induction c with
  | skip => intro st Q h β a w hr; exact wp_skip ⟨st, β, hr, h⟩
  | region id ops draw => intro st Q h β a w hr; exact vcRegion_ok hm hsp h hr fun st' β' a' w' hr' hk => ⟨st', β', hr', hk⟩
  | seq x y ihx ihy =>
    intro st Q h β a w hr
    refine wp_seq (wp_mono (ihx st _ h β a w hr) fun e a' w' hp => ?_)
    obtain ⟨st', β', hr', hq⟩ := hp
    cases e with
    | normal => exact ihy st' Q hq β' a' w' hr'
    | exit id => exact ⟨st', β', hr', hq⟩
    | goto l => exact ⟨st', β', hr', hq⟩
    | ret => exact ⟨st', β', hr', hq⟩
    | panic ch => exact ⟨st', β', hr', hq⟩
    | outgrown => exact ⟨st', β', hr', hq⟩
  | cond c x y ihx ihy =>
    intro st Q h β a w hr
    simp only [vc] at h
    split at h
    · rename_i b hb
      have hv := (St.look_ok hr (fun gp hgp => by cases hgp) hb).val
      refine wp_cond_split hv (fun hb => ?_) (fun hb => ?_)
      · exact ihx st Q (h.1 hb) β a w hr
      · exact ihy st Q (h.2 hb) β a w hr
    · exact h.elim
  | block id x ih =>
    intro st Q h β a w hr
    refine wp_block (wp_mono (ih st _ h β a w hr) fun e a' w' hp => ?_)
    obtain ⟨st', β', hr', hq⟩ := hp
    cases e with
    | normal => exact ⟨st', β', hr', hq⟩
    | exit i =>
      simp only at hq
      simp only [Exit.inBlock]
      split at hq
      · rename_i hi
        rw [if_pos (Nat.eq_of_beq_eq_true hi)]
        exact ⟨st', β', hr', hq⟩
      · rename_i hi
        rw [if_neg (fun e => by rw [e] at hi; simp at hi)]
        exact ⟨st', β', hr', hq⟩
    | goto l => exact ⟨st', β', hr', hq⟩
    | ret => exact ⟨st', β', hr', hq⟩
    | panic ch => exact ⟨st', β', hr', hq⟩
    | outgrown => exact ⟨st', β', hr', hq⟩
  | loop x ih =>
    intro st Q h β a w hr
    obtain ⟨I, ⟨n0, s0, hw0, hI0⟩, hround⟩ := h
    obtain ⟨β0, hr0⟩ := hw0 W N0 F β a w hr
    refine wp_loop_nat (fun n a w => ∃ st β, Rel W N0 F st β a w ∧ I n st) ?_ (n := n0) ⟨s0, β0, hr0, hI0⟩
    rintro n a w ⟨s, β1, hr1, hI1⟩
    refine wp_mono (ih s _ (hround n s hI1) β1 a w hr1) fun e a' w' hp => ?_
    obtain ⟨st', β', hr', hq⟩ := hp
    cases e with
    | normal =>
      obtain ⟨m, s2, hlt, hwk, hI2⟩ := hq
      obtain ⟨β2, hr2⟩ := hwk W N0 F β' a' w' hr'
      exact ⟨m, hlt, s2, β2, hr2, hI2⟩
    | exit i => exact ⟨st', β', hr', hq⟩
    | goto l => exact ⟨st', β', hr', hq⟩
    | ret => exact ⟨st', β', hr', hq⟩
    | panic ch => exact ⟨st', β', hr', hq⟩
    | outgrown => exact ⟨st', β', hr', hq⟩
  | exit id => intro st Q h β a w hr; exact wp_exit ⟨st, β, hr, h⟩
  | ret => intro st Q h β a w hr; exact wp_ret ⟨st, β, hr, h⟩
  | rangeFunc f ps as b iha ihb => intro st Q h; exact h.elim
  | scope b ih => intro st Q h; exact h.elim
  | label l => intro st Q h; exact h.elim
  | goto l => intro st Q h; exact h.elim
  | refuse why => intro st Q h; exact h.elim

/-- What a result variable holds. -/
def resOf (τ : Tab) (st : St) : ResultVar → Option SV
  | .tmp t => match findB st.sl t with
    | some (.grd _ _ _) => none
    | r => r
  | .cell a T => match findB st.sl a with
    | some x => match evLoad τ st.bx T x with
      | some ([], y) => some y
      | _ => none
    | none => none

def resL (τ : Tab) (st : St) : List ResultVar → Option (List SV)
  | [] => some []
  | r :: l => match resOf τ st r, resL τ st l with
    | some x, some xs => some (x :: xs)
    | _, _ => none

/-- What the call returns. -/
def result (τ : Tab) (st : St) (rs : Array ResultVar) : Option SV :=
  match resL τ st rs.toList with
  | some [x] => some x
  | some xs => some (.tup xs)
  | none => none

/-- A result variable as the model reads it. -/
def resM (a : Act) : ResultVar → Sem Value
  | .tmp t => pure (a.tmps.getD t undef)
  | .cell b T => do loadVar T (← asAddr (a.tmps.getD b undef))

theorem evLoad_ptr {β : Envr} {N : Nat → Prop} {w : World} {bx : List (Nat × TypeId × List SV)} {T : TypeId} {p : SV} {r : List Prop × SV} (h : evLoad τ bx T p = some r) {u : Value} (hu : SDen β N w p u) : ∃ ad, u = .pointer (some ad) := by
  unfold evLoad at h
  split at h
  · cases hu; exact ⟨_, rfl⟩
  · cases hu with
    | d hu => cases hu; exact ⟨_, rfl⟩
  · cases hu; exact ⟨_, rfl⟩
  · cases h
theorem resOf_ok {st : St} {β : Envr} {a : Act} {w : World} (hr : Rel W N0 F st β a w) {r : ResultVar} {x : SV} (h : resOf τ st r = some x) :
    ∃ v, (resM a r).run P w = .ok v w ∧ SDen β (NB N0 β st.bx st.ow) w x v := by
  unfold resOf at h
  cases r with
  | tmp t =>
    simp only at h
    cases hf : findB st.sl t with
    | none => rw [hf] at h; cases h
    | some y =>
      rw [hf] at h
      have hs := hr.slots t y hf
      cases y with
      | grd g p z => cases h
      | d z => simp only [Option.some.injEq] at h; subst h; exact ⟨_, rfl, hs⟩
      | loc i o => simp only [Option.some.injEq] at h; subst h; exact ⟨_, rfl, hs⟩
      | elem sz n f i o => simp only [Option.some.injEq] at h; subst h; exact ⟨_, rfl, hs⟩
      | tup l => simp only [Option.some.injEq] at h; subst h; exact ⟨_, rfl, hs⟩
      | own i => simp only [Option.some.injEq] at h; subst h; exact ⟨_, rfl, hs⟩
  | cell b T =>
    simp only at h
    cases hf : findB st.sl b with
    | none => rw [hf] at h; cases h
    | some y =>
      rw [hf] at h
      simp only at h
      split at h
      · rename_i z hl
        simp only [Option.some.injEq] at h; subst h
        have hd : SDen β (NB N0 β st.bx st.ow) w y (tv a b) := hr.slots b y hf
        obtain ⟨v, hv, hx⟩ := evLoad_ok (P := P) hr.boxes hl hd
        refine ⟨v, ?_, hx⟩
        show (do loadVar T (← asAddr (tv a b)) : Sem Value).run P w = .ok v w
        generalize tv a b = u at *
        obtain ⟨ad, rfl⟩ := evLoad_ptr hl hd
        simpa [Instr.loadAt, Instr.sureAddr, asAddr] using hv
      · cases h

theorem resL_ok {st : St} {β : Envr} {a : Act} {w : World} (hr : Rel W N0 F st β a w) : ∀ (rs : List ResultVar) (xs : List SV), resL τ st rs = some xs →
    ∃ vs : List Value, (rs.mapM (resM a)).run P w = .ok vs w ∧ vs.length = xs.length ∧ ∀ (j : Nat) x v, xs[j]? = some x → vs[j]? = some v → SDen β (NB N0 β st.bx st.ow) w x v
  | [], xs, h => by simp [resL] at h; subst h; exact ⟨[], by simp, rfl, fun j x v hx => by simp at hx⟩
  | r :: rs, xs, h => by
    simp only [resL] at h
    split at h
    · rename_i x ys h1 h2
      simp only [Option.some.injEq] at h; subst h
      obtain ⟨v, hv, hx⟩ := resOf_ok (P := P) hr h1
      obtain ⟨vs, hvs, hl, hd⟩ := resL_ok hr rs ys h2
      refine ⟨v :: vs, ?_, by simp [hl], fun j x' v' hx' hv' => ?_⟩
      · rw [List.mapM_cons]
        simp [hvs, hv]
      · cases j with
        | zero => simp at hx' hv'; subst hx'; subst hv'; exact hx
        | succ j => exact hd j x' v' (by simpa using hx') (by simpa using hv')
    · cases h

theorem result_ok {st : St} {β : Envr} {a : Act} {w : World} (hr : Rel W N0 F st β a w) {fn : Func} {x : SV} (h : result τ st fn.results = some x) :
    ∃ v, (results fn a.tmps).run P w = .ok v w ∧ SDen β (NB N0 β st.bx st.ow) w x v := by
  unfold result at h
  have harr : ∀ vs : List Value, (fn.results.toList.mapM (resM a)).run P w = .ok vs w →
      (results fn a.tmps).run P w = .ok (if h : vs.toArray.size = 1 then vs.toArray[0] else .tuple vs.toArray) w := by
    intro vs hvs
    have e : results fn a.tmps = (do let vs ← fn.results.mapM (resM a); pure (if h : vs.size = 1 then vs[0] else .tuple vs)) := by
      have hf : (fun r => match r with | .tmp t => (pure (a.tmps.getD t undef) : Sem Value) | .cell b T => do loadVar T (← asAddr (a.tmps.getD b undef))) = resM a := by
        funext r; cases r <;> rfl
      rw [← hf]
      rfl
    rw [e, Array.mapM_eq_mapM_toList]
    simp only [Sem.run_bind, Sem.run_map, hvs, Result.andThen_ok, Sem.run_pure]
  split at h
  · rename_i y hy
    simp only [Option.some.injEq] at h; subst h
    obtain ⟨vs, hvs, hl, hd⟩ := resL_ok (P := P) hr _ _ hy
    refine ⟨_, harr vs hvs, ?_⟩
    match vs, hl with
    | [v], _ => exact hd 0 _ _ rfl rfl
  · rename_i ys hne hy
    simp only [Option.some.injEq] at h; subst h
    obtain ⟨vs, hvs, hl, hd⟩ := resL_ok (P := P) hr _ _ hy
    refine ⟨_, harr vs hvs, ?_⟩
    rw [dif_neg ?_]
    · exact .tup _ _ hl hd
    · intro h1
      have : ys.length = 1 := by rw [← hl]; simpa using h1
      match ys, this with
      | [z], _ => exact hne z rfl
  · cases h

/-- The state in which a body begins. -/
def startL : Nat → List RV → List (Nat × SV)
  | _, [] => []
  | k, x :: l => (k, .d x) :: startL (k + 1) l
def start (n : Nat) (args : List RV) : St := ⟨n, startL 0 args, [], [], [], 0⟩

theorem startL_mem : ∀ {l : List RV} {k s : Nat} {x : SV}, (s, x) ∈ startL k l → ∃ r, x = .d r ∧ k ≤ s ∧ l[s - k]? = some r
  | y :: l, k, s, x, h => by
    simp only [startL] at h
    rcases List.mem_cons.1 h with h | h
    · obtain ⟨rfl, rfl⟩ := Prod.mk.inj h
      exact ⟨y, rfl, Nat.le_refl _, by simp⟩
    · obtain ⟨r, h1, h2, h3⟩ := startL_mem h
      refine ⟨r, h1, by omega, ?_⟩
      rw [show s - k = (s - (k + 1)) + 1 by omega]
      simpa using h3

/-- The end of a body: what is returned, and that it names no box. -/
def Ends (τ : Tab) (rs : Array ResultVar) (x : SV) : Exit → St → Prop := fun e st =>
  (match e with | .ret => True | .normal => True | _ => False) ∧ result τ st.freeze rs = some x

/-- A result that stands for the same under any numbering of boxes. -/
def boxless : SV → Bool
  | .d _ => true
  | .tup l => boxlessL l
  | _ => false
where
  boxlessL : List SV → Bool
    | [] => true
    | x :: l => boxless x && boxlessL l

theorem boxlessL_mem : ∀ {l : List SV} {x : SV}, boxless.boxlessL l = true → x ∈ l → boxless x = true
  | y :: l, x, h, hx => by
    simp only [boxless.boxlessL, Bool.and_eq_true] at h
    rcases List.mem_cons.1 hx with rfl | hx
    · exact h.1
    · exact boxlessL_mem h.2 hx

theorem SDen.any {β β' : Envr} {N : Nat → Prop} {w : World} {x : SV} {v : Value} (h : SDen β N w x v) (hx : boxless x = true) : SDen β' N w x v := by
  induction h with
  | d h => exact .d h
  | loc i off => cases hx
  | elem => cases hx
  | own i => cases hx
  | tup l vs hl hd ih => exact .tup l vs hl fun j x v hj hv => ih j x v hj hv (boxlessL_mem hx (List.mem_of_getElem? hj))

/-- A Go function returns what its body's conditions say. -/
theorem pure_of_vc (hm : P.follows .mixedOrders = true) (hsp : SpecOk P sp) {f : FuncId} {fn : Func} {c : Code} (hf : P.funcs[f]? = some fn) (hb : fn.body = some c) {args : List RV} {x : SV} (hx : boxless x = true) (hn : args.length ≤ fn.ntmps)
    (h : vc τ sp c (start fn.ntmps args) (Ends τ fn.results x)) : Pure P f args x := by
  intro N w vs hN hargs
  have hrel : Rel w N (fun _ => False) (start fn.ntmps args) ⟨fun _ => 0, fun _ => undef⟩ { tmps := vs.toArray ++ Array.replicate (fn.ntmps - vs.toArray.size) undef, defers := [] } w := by
    refine ⟨Keeps.refl _ _, ?_, rfl, fun s y hy => ?_, fun s g p x hx => (by cases hx), fun i T cs hf => (by cases hf), fun i j hi => (by cases hi), fun i hi => (by cases hi), fun b hb => ⟨hN b hb, fun f => f⟩, fun i o hi => (by cases hi), fun i j b hi => (by cases hi), fun i j hi => (by cases hi), fun i hi => (by cases hi)⟩
    · have := hargs.1; simp [start]; omega
    · obtain ⟨r, rfl, _, hr⟩ := startL_mem (findB_mem hy)
      simp only [Nat.sub_zero] at hr
      have hlt : s < vs.length := by rw [hargs.1]; exact (List.getElem?_eq_some_iff.1 hr).1
      refine .d ?_
      have e : tv { tmps := vs.toArray ++ Array.replicate (fn.ntmps - vs.toArray.size) undef, defers := [] } s = vs[s] := by
        unfold tv
        simp [Array.getD_eq_getD_getElem?, Array.getElem?_append, hlt]
      rw [e]
      refine (hargs.2 s r _ hr (List.getElem?_eq_getElem hlt)).less fun b _ hb => ?_
      rcases hb with hb | ⟨i, hi, _⟩ | ⟨i, hi, _⟩
      · exact hb
      · cases hi
      · cases hi
  refine calls_of_wp hf hb (wp_mono (vc_ok hm hsp c _ _ h _ _ _ hrel) fun e a' w' hp => ?_)
  obtain ⟨st', β', hr', he, hres⟩ := hp
  obtain ⟨v, hv, hd⟩ := result_ok (P := P) hr'.freeze hres
  have fin : ∃ v, Ending.returned v = .returned v ∧ (∀ β, SDen β N w' x v) ∧ Below w.heap.size w w' := ⟨v, rfl, fun β => (hd.any hx).less fun b _ hb => .inl hb, hr'.keeps.to_below⟩
  cases e with
  | normal => exact ⟨hr'.defers, v, hv, v, rfl, fun β => (hd.any hx).less fun b _ hb => .inl hb, hr'.keeps.to_below⟩
  | ret => exact ⟨hr'.defers, v, hv, v, rfl, fun β => (hd.any hx).less fun b _ hb => .inl hb, hr'.keeps.to_below⟩
  | exit i => exact he.elim
  | goto l => exact he.elim
  | panic ch => exact he.elim
  | outgrown => exact he.elim

/-- The same, the body taken out of the function. -/
def bodyOf (fn : Func) : Code := fn.body.getD .skip
def hasBody (fn : Func) : Bool := fn.body.isSome
theorem pure_fn (hm : P.follows .mixedOrders = true) (hsp : SpecOk P sp) {f : FuncId} (fn : Func) (hf : P.funcs[f]? = some fn) (hb : hasBody fn = true) {args : List RV} {x : SV} (hx : boxless x = true) (hn : Nat.ble args.length fn.ntmps = true)
    (h : vc τ sp (bodyOf fn) (start fn.ntmps args) (Ends τ fn.results x)) : Pure P f args x := by
  unfold hasBody at hb
  cases hc : fn.body with
  | none => rw [hc] at hb; cases hb
  | some c =>
    refine pure_of_vc (τ := τ) hm hsp hf hc hx (Nat.le_of_ble_eq_true hn) ?_
    unfold bodyOf at h
    rw [hc] at h
    exact h

/-- No call is answered. -/
def noSpec : Spec := fun _ _ => none
theorem noSpec_ok : SpecOk P noSpec := fun g args ps x h => by cases h

end
end Go.Sim

namespace Go.Sim

/-- One function's contract: for which data it speaks, under which conditions, and what is returned. -/
abbrev Entry := List RV → Res
def EntryOk (P : Program) (g : FuncId) (f : Entry) : Prop := Enters P g ∧ ∀ args ps x, f args = some (ps, x) → (∀ p ∈ ps, p) → Pure P g args x

def table (l : List (Nat × Entry)) : Spec := fun g args => match findB l g with
  | some f => f args
  | none => none

def AllOk (P : Program) : List (Nat × Entry) → Prop
  | [] => True
  | (g, f) :: l => EntryOk P g f ∧ AllOk P l

theorem allOk_mem {P : Program} : ∀ {l : List (Nat × Entry)} {g : Nat} {f : Entry}, AllOk P l → (g, f) ∈ l → EntryOk P g f
  | (k, e) :: l, g, f, h, hm => by
    rcases List.mem_cons.1 hm with hm | hm
    · obtain ⟨rfl, rfl⟩ := Prod.mk.inj hm; exact h.1
    · exact allOk_mem h.2 hm

theorem table_ok {P : Program} {l : List (Nat × Entry)} (h : AllOk P l) : SpecOk P (table l) := by
  intro g args ps x hs hp
  unfold table at hs
  split at hs
  · rename_i f hf
    obtain ⟨h1, h2⟩ := allOk_mem h (findB_mem hf)
    exact ⟨h1, h2 args ps x hs hp⟩
  · cases hs

/-- The entries of the slots in ss alone. -/
def keepL (sl : List (Nat × SV)) : List Nat → List (Nat × SV)
  | [] => []
  | s :: l => match findB sl s with
    | some x => (s, x) :: keepL sl l
    | none => keepL sl l
def St.keep (st : St) (ss : List Nat) : St := ⟨st.n, keepL st.sl ss, [], st.bx, st.ow, st.nx⟩

theorem keepL_find {sl : List (Nat × SV)} {s : Nat} {x : SV} : ∀ {ss : List Nat}, findB (keepL sl ss) s = some x → findB sl s = some x
  | t :: l, h => by
    simp only [keepL] at h
    split at h
    · rename_i y hy
      rw [findB_cons] at h
      split at h
      · rename_i e; subst e; rw [← h]; exact hy
      · exact keepL_find h
    · exact keepL_find h

theorem weaker_keep (st : St) (ss : List Nat) : Weaker st (st.keep ss) := fun _ _ _ β _ _ h =>
  ⟨β, h.keeps, h.size, h.defers, fun s x hx => h.slots s x (keepL_find hx), fun s g p x hx => (by cases hx), h.boxes, h.inj, h.own, h.outer, h.owns, h.odist, h.obox, h.onx⟩
theorem Weaker.refl (st : St) : Weaker st st := fun _ _ _ β _ _ h => ⟨β, h⟩
theorem Weaker.trans {a b c : St} (h : Weaker a b) (h' : Weaker b c) : Weaker a c := fun W N0 F β x w hr => let ⟨β', hr'⟩ := h W N0 F β x w hr; h' W N0 F β' x w hr'
/-- By the entries that are kept. -/
theorem weaker_of {st st' : St} (ss : List Nat) (h : st.keep ss = st') : Weaker st st' := h ▸ weaker_keep st ss

/-- Without the boxes in ds (no entry that is left names them, or they are not looked at again). -/
def dropB (ds : List Nat) : List (Nat × TypeId × List SV) → List (Nat × TypeId × List SV)
  | [] => []
  | (k, x) :: l => match ds.elem k with
    | true => dropB ds l
    | false => (k, x) :: dropB ds l

theorem findB_dropB {ds : List Nat} {i : Nat} {c : TypeId × List SV} : ∀ {l : List (Nat × TypeId × List SV)}, findB (dropB ds l) i = some c → ∃ c', findB l i = some c'
  | (k, x) :: l, h => by
    simp only [dropB] at h
    simp only [findB]
    split
    · exact ⟨_, rfl⟩
    · rename_i hk
      split at h
      · exact findB_dropB h
      · simp only [findB, hk] at h
        exact findB_dropB h

/-- The end of a body, by the result as it stands. -/
theorem ends_ret {τ : Tab} {rs : Array ResultVar} {x y : SV} {st : St} (h : y = x) (hr : result τ st.freeze rs = some y) : Ends τ rs x .ret st := ⟨trivial, h ▸ hr⟩
theorem ends_normal {τ : Tab} {rs : Array ResultVar} {x y : SV} {st : St} (h : y = x) (hr : result τ st.freeze rs = some y) : Ends τ rs x .normal st := ⟨trivial, h ▸ hr⟩

/-- A loop: the relation at the head by a measure, the slots that are kept, what the body owes. -/
theorem loopVC_intro {body : St → (Exit → St → Prop) → Prop} {st : St} {Q : Exit → St → Prop} (I : Nat → St → Prop) (n : Nat) (s : St) (h0 : Weaker st s) (hI : I n s)
    (hb : ∀ n s, I n s → body s (fun e s' => match e with
      | .normal => ∃ m s2, m < n ∧ Weaker s' s2 ∧ I m s2
      | e => Q e s')) : loopVC body st Q := ⟨I, ⟨n, s, h0, hI⟩, hb⟩

end Go.Sim

namespace Go.Sim

/-- Rows get other numbers ('ren': the old, the new); nil slices in slots and in boxes become empty rows. -/
structure ReO where
  ren : List (Nat × Nat)
  nilS : List (Nat × Nat)
  nilB : List (Nat × List (Nat × Nat))
  nils : List (Nat × Own)

def swapL : List (Nat × Nat) → List (Nat × Nat)
  | [] => []
  | (i, j) :: l => (j, i) :: swapL l
def isSomeEq (x : Option Nat) (k : Nat) : Bool := match x with
  | some m => Nat.beq m k
  | none => false
theorem isSomeEq_ok {x : Option Nat} {k : Nat} (h : isSomeEq x k = true) : x = some k := by
  cases x with
  | none => cases h
  | some m => rw [Nat.eq_of_beq_eq_true h]
/-- The new numbers are told apart. -/
def okRen (R : ReO) : List (Nat × Nat) → Bool
  | [] => true
  | (i, j) :: l => isSomeEq (findB R.ren i) j && isSomeEq (findB (swapL R.ren) j) i && isNone (findB R.nils j) && okRen R l
theorem okRen_mem {R : ReO} {i j : Nat} : ∀ {l : List (Nat × Nat)}, okRen R l = true → (i, j) ∈ l → findB R.ren i = some j ∧ findB (swapL R.ren) j = some i ∧ findB R.nils j = none
  | (a, b) :: l, h, hm => by
    simp only [okRen, Bool.and_eq_true] at h
    obtain ⟨⟨⟨h1, h2⟩, h3⟩, h4⟩ := h
    rcases List.mem_cons.1 hm with hm | hm
    · obtain ⟨rfl, rfl⟩ := Prod.mk.inj hm
      exact ⟨isSomeEq_ok h1, isSomeEq_ok h2, isNone_eq h3⟩
    · exact okRen_mem h4 hm

def reC (R : ReO) (at_ : Option Nat) (x : SV) : Option SV :=
  match at_ with
  | some id => match x with
    | .d .nil => match findB R.nils id with
      | some _ => some (.own id)
      | none => none
    | _ => none
  | none => match x with
    | .own k => match findB R.ren k with
      | some j => some (.own j)
      | none => none
    | .d x => some (.d x)
    | .loc b o => some (.loc b o)
    | .elem sz n f k o => some (.elem sz n f k o)
    | _ => none
def reL (R : ReO) : List (Nat × SV) → Option (List (Nat × SV))
  | [] => some []
  | (s, x) :: l => match reC R (findB R.nilS s) x, reL R l with
    | some y, some r => some ((s, y) :: r)
    | _, _ => none
def reCs (R : ReO) (ns : List (Nat × Nat)) : Nat → List SV → Option (List SV)
  | _, [] => some []
  | k, x :: l => match reC R (findB ns k) x, reCs R ns (k + 1) l with
    | some y, some r => some (y :: r)
    | _, _ => none
def nilsOf (R : ReO) (i : Nat) : List (Nat × Nat) := match findB R.nilB i with
  | some l => l
  | none => []
def reB (R : ReO) : List (Nat × TypeId × List SV) → Option (List (Nat × TypeId × List SV))
  | [] => some []
  | (i, T, cs) :: l => match reCs R (nilsOf R i) 0 cs, reB R l with
    | some ys, some r => some ((i, T, ys) :: r)
    | _, _ => none
def reOw (ow : List (Nat × Own)) : List (Nat × Nat) → Option (List (Nat × Own))
  | [] => some []
  | (i, j) :: l => match findB ow i, reOw ow l with
    | some o, some r => some ((j, o) :: r)
    | _, _ => none
def allLt {α : Type} (n : Nat) : List (Nat × α) → Bool
  | [] => true
  | (k, _) :: l => Nat.blt k n && allLt n l
theorem allLt_mem {α : Type} {n k : Nat} {x : α} : ∀ {l : List (Nat × α)}, allLt n l = true → (k, x) ∈ l → k < n
  | (a, y) :: l, h, hm => by
    simp only [allLt, Bool.and_eq_true] at h
    rcases List.mem_cons.1 hm with hm | hm
    · obtain ⟨rfl, rfl⟩ := Prod.mk.inj hm; exact Nat.le_of_ble_eq_true h.1
    · exact allLt_mem h.2 hm
def allZero : List (Nat × Own) → Bool
  | [] => true
  | (_, o) :: l => Nat.beq o.n 0 && allZero l
theorem allZero_mem {k : Nat} {o : Own} : ∀ {l : List (Nat × Own)}, allZero l = true → (k, o) ∈ l → o.n = 0
  | (a, y) :: l, h, hm => by
    simp only [allZero, Bool.and_eq_true] at h
    rcases List.mem_cons.1 hm with hm | hm
    · obtain ⟨rfl, rfl⟩ := Prod.mk.inj hm; exact Nat.eq_of_beq_eq_true h.1
    · exact allZero_mem h.2 hm

def St.re (st : St) (ss : List Nat) (R : ReO) (nx : Nat) : Option St :=
  match okRen R R.ren && allZero R.nils with
  | true => match reL R (keepL st.sl ss), reB R st.bx, reOw st.ow R.ren with
    | some sl, some bx, some ow => match allLt nx (ow ++ R.nils) with
      | true => some ⟨st.n, sl, [], bx, ow ++ R.nils, nx⟩
      | false => none
    | _, _, _ => none
  | false => none

def reEnv (R : ReO) (β : Envr) : Envr := ⟨β.b, fun j => match findB R.nils j with
  | some _ => .slice none 0 0
  | none => match findB (swapL R.ren) j with
    | some i => β.r i
    | none => undef⟩

theorem reL_find {R : ReO} {s : Nat} {y : SV} : ∀ {l r : List (Nat × SV)}, reL R l = some r → findB r s = some y → ∃ x, findB l s = some x ∧ reC R (findB R.nilS s) x = some y
  | [], r, h, hy => by simp [reL] at h; subst h; cases hy
  | (t, x) :: l, r, h, hy => by
    simp only [reL] at h
    split at h
    · rename_i z q h1 h2
      simp only [Option.some.injEq] at h; subst h
      rw [findB_cons] at hy
      split at hy
      · rename_i e
        subst e
        exact ⟨x, by rw [findB_cons, if_pos rfl], by rw [h1, ← hy]⟩
      · rename_i e
        obtain ⟨x', a, b⟩ := reL_find h2 hy
        exact ⟨x', by rw [findB_cons, if_neg e]; exact a, b⟩
    · cases h
theorem reCs_get {R : ReO} {ns : List (Nat × Nat)} : ∀ {k : Nat} {l r : List SV}, reCs R ns k l = some r → r.length = l.length ∧ ∀ (j : Nat) y, r[j]? = some y → ∃ x, l[j]? = some x ∧ reC R (findB ns (k + j)) x = some y
  | k, [], r, h => by simp [reCs] at h; subst h; exact ⟨rfl, fun j y hy => by simp at hy⟩
  | k, x :: l, r, h => by
    simp only [reCs] at h
    split at h
    · rename_i z q h1 h2
      simp only [Option.some.injEq] at h; subst h
      obtain ⟨a, b⟩ := reCs_get h2
      refine ⟨by simp [a], fun j y hy => ?_⟩
      cases j with
      | zero => simp at hy; subst hy; exact ⟨x, rfl, h1⟩
      | succ j =>
        obtain ⟨x', c, d⟩ := b j y (by simpa using hy)
        exact ⟨x', by simpa using c, by rw [show k + (j + 1) = k + 1 + j by omega]; exact d⟩
    · cases h
theorem reB_find {R : ReO} {i : Nat} {T : TypeId} {ys : List SV} : ∀ {l r : List (Nat × TypeId × List SV)}, reB R l = some r → findB r i = some (T, ys) → ∃ cs, findB l i = some (T, cs) ∧ reCs R (nilsOf R i) 0 cs = some ys
  | [], r, h, hy => by simp [reB] at h; subst h; cases hy
  | (k, T', cs) :: l, r, h, hy => by
    simp only [reB] at h
    split at h
    · rename_i z q h1 h2
      simp only [Option.some.injEq] at h; subst h
      rw [findB_cons] at hy
      split at hy
      · rename_i e
        subst e
        obtain ⟨rfl, rfl⟩ := Prod.mk.inj (Option.some.inj hy)
        exact ⟨cs, by rw [findB_cons, if_pos rfl], h1⟩
      · rename_i e
        obtain ⟨x', a, b⟩ := reB_find h2 hy
        exact ⟨x', by rw [findB_cons, if_neg e]; exact a, b⟩
    · cases h
theorem reOw_mem {ow : List (Nat × Own)} {j : Nat} {o : Own} : ∀ {l : List (Nat × Nat)} {r : List (Nat × Own)}, reOw ow l = some r → (j, o) ∈ r → ∃ i, (i, j) ∈ l ∧ findB ow i = some o
  | [], r, h, hm => by simp [reOw] at h; subst h; cases hm
  | (a, b) :: l, r, h, hm => by
    simp only [reOw] at h
    split at h
    · rename_i o' q h1 h2
      simp only [Option.some.injEq] at h; subst h
      rcases List.mem_cons.1 hm with hm | hm
      · obtain ⟨rfl, rfl⟩ := Prod.mk.inj hm
        exact ⟨a, List.mem_cons_self, h1⟩
      · obtain ⟨i, c, d⟩ := reOw_mem h2 hm
        exact ⟨i, List.mem_cons_of_mem _ c, d⟩
    · cases h
theorem findB_swap {i j : Nat} : ∀ {l : List (Nat × Nat)}, findB (swapL l) j = some i → (i, j) ∈ l
  | (a, b) :: l, h => by
    simp only [swapL] at h
    rw [findB_cons] at h
    split at h
    · rename_i e
      obtain rfl := Option.some.inj h
      rw [e]; exact List.mem_cons_self
    · exact List.mem_cons_of_mem _ (findB_swap h)

theorem weaker_re {st st' : St} (ss : List Nat) (R : ReO) (nx : Nat) (h : st.re ss R nx = some st') : Weaker st st' := by
  intro W N0 F β a w hr
  unfold St.re at h
  split at h
  case h_2 => cases h
  rename_i hok
  simp only [Bool.and_eq_true] at hok
  obtain ⟨hok, hz⟩ := hok
  split at h
  case h_2 => cases h
  rename_i sl bx ow hsl hbx how
  split at h
  case h_2 => cases h
  rename_i hlt
  simp only [Option.some.injEq] at h; subst h
  have hnil : ∀ j, (findB R.nils j).isSome = true → (reEnv R β).r j = .slice none 0 0 := fun j hj => by
    cases hf : findB R.nils j with
    | none => rw [hf] at hj; cases hj
    | some o => simp only [reEnv, hf]
  have hren : ∀ i j, (i, j) ∈ R.ren → (reEnv R β).r j = β.r i := fun i j hm => by
    obtain ⟨_, h2, h3⟩ := okRen_mem hok hm
    simp only [reEnv, h2, h3]
  have hren' : ∀ i j, findB R.ren i = some j → (reEnv R β).r j = β.r i := fun i j hm => hren i j (findB_mem hm)
  -- what the rows are
  have hown : ∀ j o, findB (ow ++ R.nils) j = some o → (∃ i, (i, j) ∈ R.ren ∧ findB st.ow i = some o) ∨ (findB R.nils j = some o ∧ o.n = 0) := fun j o hj => by
    rw [findB_append] at hj
    split at hj
    · rename_i o' hf
      obtain rfl := Option.some.inj hj
      exact .inl (reOw_mem how (findB_mem hf))
    · exact .inr ⟨hj, allZero_mem hz (findB_mem hj)⟩
  have hblk : ∀ j b, (findB (ow ++ R.nils) j).isSome = true → ((reEnv R β).r j).ownBlock = some b → ∃ i, (i, j) ∈ R.ren ∧ (findB st.ow i).isSome = true ∧ (β.r i).ownBlock = some b := fun j b hj hb => by
    cases hf : findB (ow ++ R.nils) j with
    | none => rw [hf] at hj; cases hj
    | some o =>
      rcases hown j o hf with ⟨i, h1, h2⟩ | ⟨h1, _⟩
      · rw [hren i j h1] at hb
        exact ⟨i, h1, by rw [h2]; rfl, hb⟩
      · rw [hnil j (by rw [h1]; rfl)] at hb; cases hb
  have hbi : ∀ i, (findB bx i).isSome = true → (findB st.bx i).isSome = true := fun i hi => by
    cases hf : findB bx i with
    | none => rw [hf] at hi; cases hi
    | some c =>
      obtain ⟨T, ys⟩ := c
      obtain ⟨cs, h1, _⟩ := reB_find hbx hf
      rw [h1]; rfl
  have hN : ∀ b, b < w.heap.size → NB N0 (reEnv R β) bx (ow ++ R.nils) b → NB N0 β st.bx st.ow b := by
    rintro b _ (h0 | ⟨i, hi, hb⟩ | ⟨k, hk, hb⟩)
    · exact .inl h0
    · exact .inr (.inl ⟨i, hbi i hi, hb⟩)
    · obtain ⟨i, _, h2, h3⟩ := hblk k b hk hb
      exact .inr (.inr ⟨i, h2, h3⟩)
  have hC : ∀ (at_ : Option Nat) (x y : SV) (v : Value), reC R at_ x = some y → SDen β (NB N0 β st.bx st.ow) w x v → SDen (reEnv R β) (NB N0 (reEnv R β) bx (ow ++ R.nils)) w y v := by
    intro at_ x y v h hx
    unfold reC at h
    split at h
    · rename_i id
      split at h
      · split at h
        · rename_i o hf
          simp only [Option.some.injEq] at h; subst h
          cases hx with | d hx => cases hx with
            | none =>
              have := SDen.own (β := reEnv R β) (N := NB N0 (reEnv R β) bx (ow ++ R.nils)) (w := w) id
              rwa [hnil id (by rw [hf]; rfl)] at this
        · cases h
      · cases h
    · split at h
      · rename_i k
        split at h
        · rename_i j hf
          simp only [Option.some.injEq] at h; subst h
          cases hx
          have := SDen.own (β := reEnv R β) (N := NB N0 (reEnv R β) bx (ow ++ R.nils)) (w := w) j
          rwa [hren' k j hf] at this
        · cases h
      · simp only [Option.some.injEq] at h; subst h
        cases hx with | d hx => exact .d (hx.less hN)
      · simp only [Option.some.injEq] at h; subst h
        cases hx
        exact SDen.loc (β := reEnv R β) _ _
      · simp only [Option.some.injEq] at h; subst h
        cases hx with | elem _ _ _ _ _ b o c hi hb hN' hsz hc ho hd => exact (SDen.elem (β := reEnv R β) _ _ _ _ _ b o c hi hb hN' hsz hc ho hd).less hN
      · cases h
  refine ⟨reEnv R β, hr.keeps, hr.size, hr.defers, fun s y hy => ?_, fun s g p x hx => (by cases hx), fun i T ys hf => ?_, fun i j hi hj => hr.inj i j (hbi i hi) (hbi j hj), fun i hi => hr.own i (hbi i hi), hr.outer, fun j o hj => ?_, fun j k b hj hk hbj hbk => ?_, fun j i hj hi hb => ?_, fun j hj => ?_⟩
  · obtain ⟨x, h1, h2⟩ := reL_find hsl hy
    exact hC _ x y _ h2 (hr.slots s x (keepL_find h1))
  · obtain ⟨cs, h1, h2⟩ := reB_find hbx hf
    obtain ⟨vs, v1, v2, v3⟩ := hr.boxes i T cs h1
    obtain ⟨l1, l2⟩ := reCs_get h2
    refine ⟨vs, v1, ⟨by rw [l1]; exact v2.1, fun k y v hy hv => ?_⟩, v3⟩
    obtain ⟨x, e1, e2⟩ := l2 k y hy
    exact hC _ x y v e2 (v2.2 k x v e1 hv)
  · rcases hown j o hj with ⟨i, h1, h2⟩ | ⟨h1, h2⟩
    · obtain ⟨xs, x1, x2, x3, x4⟩ := hr.owns i o h2
      exact ⟨xs, by rw [hren i j h1]; exact x1, x2, fun k q x v hk hx hv => (x3 k q x v hk hx hv).less hN, x4⟩
    · refine ⟨[], ?_, fun k hk => by omega, fun k q x v hk => by omega, fun v hv => (by cases hv)⟩
      rw [hnil j (by rw [h1]; rfl), h2]
      exact World.ownsRow_nil _ _ _ _
  · obtain ⟨i1, a1, a2, a3⟩ := hblk j b hj hbj
    obtain ⟨i2, b1, b2, b3⟩ := hblk k b hk hbk
    have hii := hr.odist i1 i2 b a2 b2 a3 b3
    subst hii
    have e1 := (okRen_mem hok a1).1
    have e2 := (okRen_mem hok b1).1
    rw [e1] at e2
    exact Option.some.inj e2
  · obtain ⟨i1, _, a2, a3⟩ := hblk j _ hj hb
    exact hr.obox i1 i a2 (hbi i hi) a3
  · cases hf : findB (ow ++ R.nils) j with
    | none => rw [hf] at hj; cases hj
    | some o => exact allLt_mem hlt (findB_mem hf)

/-- One row renamed; one nil slice made a row. -/
def St.ren (st : St) (ss : List Nat) (i j nx : Nat) : Option St := st.re ss ⟨[(i, j)], [], [], []⟩ nx
theorem weaker_ren {st st' : St} (ss : List Nat) (i j nx : Nat) (h : st.ren ss i j nx = some st') : Weaker st st' := weaker_re ss _ nx h
def St.nilO (st : St) (ss : List Nat) (s : Nat) (e : TypeId) (sz : Nat) (f : Nat → RV) : Option St := st.re (s :: ss) ⟨[], [(s, 0)], [], [(0, ⟨e, sz, 0, f⟩)]⟩ 1
theorem weaker_nilO {st st' : St} (ss : List Nat) (s : Nat) (e : TypeId) (sz : Nat) (f : Nat → RV) (h : st.nilO ss s e sz f = some st') : Weaker st st' := weaker_re _ _ 1 h
theorem findB_one {α : Type} {j k : Nat} {o o' : α} (h : findB [(j, o)] k = some o') : k = j ∧ o' = o := by
  rw [findB_cons] at h
  split at h
  · rename_i e; exact ⟨e, (Option.some.inj h).symm⟩
  · cases h
theorem findB_one_some {α : Type} {j k : Nat} {o : α} (h : (findB [(j, o)] k).isSome = true) : k = j := by
  cases hf : findB [(j, o)] k with
  | none => rw [hf] at h; cases h
  | some o' => exact (findB_one hf).1

/-- The owned row said otherwise. -/
theorem weaker_row {n : Nat} {sl : List (Nat × SV)} {bx : List (Nat × TypeId × List SV)} {j nx : Nat} {e : TypeId} {sz m m' : Nat} {f f' : Nat → RV} (hm : m = m') (hf : ∀ k, k < m → f k = f' k) :
    Weaker ⟨n, sl, [], bx, [(j, ⟨e, sz, m, f⟩)], nx⟩ ⟨n, sl, [], bx, [(j, ⟨e, sz, m', f'⟩)], nx⟩ := by
  subst hm
  intro W N0 F β a w hr
  have hso : ∀ k, (findB [(j, (⟨e, sz, m, f'⟩ : Own))] k).isSome = true → (findB [(j, (⟨e, sz, m, f⟩ : Own))] k).isSome = true := fun k hk => by
    rw [findB_one_some hk, findB_cons, if_pos rfl]; rfl
  have hN : ∀ b, b < w.heap.size → NB N0 β bx [(j, ⟨e, sz, m, f'⟩)] b → NB N0 β bx [(j, ⟨e, sz, m, f⟩)] b := by
    rintro b _ (h0 | h1 | ⟨k, hk, hb⟩)
    · exact .inl h0
    · exact .inr (.inl h1)
    · exact .inr (.inr ⟨k, hso k hk, hb⟩)
  refine ⟨β, hr.keeps, hr.size, hr.defers, fun s y hy => (hr.slots s y hy).less hN, fun s g p x hx => (by cases hx), ?_, hr.inj, hr.own, hr.outer, ?_, fun k k' b hk hk' => hr.odist k k' b (hso k hk) (hso k' hk'), fun k b hk hb => hr.obox k b (hso k hk) hb, fun k hk => hr.onx k (hso k hk)⟩
  · intro k T cs hf
    obtain ⟨vs, h1, h2, h3⟩ := hr.boxes k T cs hf
    exact ⟨vs, h1, ⟨h2.1, fun q x v hx hv => (h2.2 q x v hx hv).less hN⟩, h3⟩
  · intro k o' hk
    obtain ⟨rfl, rfl⟩ := findB_one hk
    obtain ⟨xs, h1, h2, h3, h4⟩ := hr.owns k ⟨e, sz, m, f⟩ (by rw [findB_cons, if_pos rfl])
    exact ⟨xs, h1, fun q hq => (by
      show (f' q).cells.length = sz
      rw [← hf q hq]; exact h2 q hq), fun q i x v hq hx hv => (h3 q i x v hq (by
      show (f q).cells[i]? = some x
      rw [hf q hq]; exact hx) hv).less hN, h4⟩

/-- Without the boxes in ds, where no entry that is left names them. -/
def St.noBox (st : St) (ds : List Nat) : Option St :=
  match st.gl, ds.all (fun d => noName d st.sl) with
  | [], true => some ⟨st.n, st.sl, [], dropB ds st.bx, st.ow, st.nx⟩
  | _, _ => none

theorem findB_dropB' {ds : List Nat} {i : Nat} {c : TypeId × List SV} : ∀ {l : List (Nat × TypeId × List SV)}, findB (dropB ds l) i = some c → i ∉ ds ∧ findB l i = some c
  | (k, x) :: l, h => by
    simp only [dropB] at h
    split at h
    · rename_i hk
      obtain ⟨h1, h2⟩ := findB_dropB' h
      refine ⟨h1, ?_⟩
      rw [findB_cons, if_neg (fun e => h1 (by rw [e]; exact List.elem_iff.1 hk))]; exact h2
    · rename_i hk
      rw [findB_cons] at h
      split at h
      · rename_i e
        subst e
        exact ⟨fun hm => (by rw [List.elem_iff.2 hm] at hk; cases hk), by rw [findB_cons, if_pos rfl]; exact h⟩
      · rename_i e
        obtain ⟨h1, h2⟩ := findB_dropB' h
        exact ⟨h1, by rw [findB_cons, if_neg e]; exact h2⟩

theorem weaker_noBox {st st' : St} (ds : List Nat) (h : st.noBox ds = some st') : Weaker st st' := by
  intro W N0 F β a w hr
  unfold St.noBox at h
  split at h
  · simp only [Option.some.injEq] at h; subst h
    have hso : ∀ i, (findB (dropB ds st.bx) i).isSome = true → (findB st.bx i).isSome = true := fun i hi => by
      cases hf : findB (dropB ds st.bx) i with
      | none => rw [hf] at hi; cases hi
      | some c => rw [(findB_dropB' hf).2]; rfl
    have hN : ∀ b, b < w.heap.size → NB N0 β (dropB ds st.bx) st.ow b → NB N0 β st.bx st.ow b := by
      rintro b _ (h0 | ⟨i, hi, hb⟩ | h1)
      · exact .inl h0
      · exact .inr (.inl ⟨i, hso i hi, hb⟩)
      · exact .inr (.inr h1)
    refine ⟨β, hr.keeps, hr.size, hr.defers, fun s y hy => (hr.slots s y hy).less hN, fun s g p x hx => (by cases hx), ?_, fun i j hi hj => hr.inj i j (hso i hi) (hso j hj), fun i hi => hr.own i (hso i hi), hr.outer, hr.owns.less hN, hr.odist, fun k b hk hb => hr.obox k b hk (hso b hb), hr.onx⟩
    intro k T cs hf
    obtain ⟨vs, h1, h2, h3⟩ := hr.boxes k T cs (findB_dropB' hf).2
    exact ⟨vs, h1, ⟨h2.1, fun q x v hx hv => (h2.2 q x v hx hv).less hN⟩, h3⟩
  · cases h

end Go.Sim

namespace Go.Sim

def pickB {α : Type} (p : Nat → Bool) : List (Nat × α) → List (Nat × α)
  | [] => []
  | (k, x) :: l => match p k with
    | true => (k, x) :: pickB p l
    | false => pickB p l
theorem findB_pickB {α : Type} {p : Nat → Bool} {i : Nat} : ∀ {l : List (Nat × α)}, findB (pickB p l) i = match p i with
    | true => findB l i
    | false => none
  | [] => by simp only [pickB, findB]; split <;> rfl
  | (k, x) :: l => by
    simp only [pickB, findB_cons (x := x)]
    cases hk : p k with
    | true =>
      simp only [findB_cons, findB_pickB (l := l)]
      by_cases e : i = k
      · subst e; simp [hk]
      · simp [e]
    | false =>
      simp only [findB_pickB (l := l)]
      by_cases e : i = k
      · subst e; simp [hk]
      · simp [e]
theorem findB_pick {α : Type} {p : Nat → Bool} {i : Nat} {l : List (Nat × α)} {x : α} (h : findB (pickB p l) i = some x) : p i = true ∧ findB l i = some x := by
  rw [findB_pickB] at h
  split at h
  · rename_i e; exact ⟨e, h⟩
  · cases h
theorem isSome_pick {α : Type} {p : Nat → Bool} {i : Nat} {l : List (Nat × α)} (h : (findB (pickB p l) i).isSome = true) : p i = true ∧ (findB l i).isSome = true := by
  cases hf : findB (pickB p l) i with
  | none => rw [hf] at h; cases h
  | some x => obtain ⟨h1, h2⟩ := findB_pick hf; exact ⟨h1, by rw [h2]; rfl⟩
/-- The boxes in ds are data from here on. -/
def St.frzB (st : St) (ds : List Nat) : St :=
  ⟨st.n, frzXS (pickB (fun k => ds.elem k) st.bx) st.sl, frzXG (pickB (fun k => ds.elem k) st.bx) st.gl, pickB (fun k => !ds.elem k) st.bx, st.ow, st.nx⟩
theorem weaker_frzB (st : St) (ds : List Nat) : Weaker st (st.frzB ds) := by
  intro W N0 F β a w h
  refine ⟨β, ?_⟩
  unfold St.frzB
  have hN : ∀ b, b < w.heap.size → NB N0 β (pickB (fun k => !ds.elem k) st.bx) st.ow b → NB N0 β st.bx st.ow b := by
    rintro b _ (h0 | ⟨i, hi, e⟩ | h2)
    · exact .inl h0
    · exact .inr (.inl ⟨i, (isSome_pick hi).2, e⟩)
    · exact .inr (.inr h2)
  have hb : BoxOk β (NB N0 β st.bx st.ow) w (pickB (fun k => ds.elem k) st.bx) := fun i T cs hi => h.boxes i T cs (findB_pick hi).2
  have hn : ∀ i, (findB (pickB (fun k => ds.elem k) st.bx) i).isSome = true → ¬ NB N0 β (pickB (fun k => !ds.elem k) st.bx) st.ow (β.b i) := by
    rintro i hi (h0 | ⟨j, hj, e⟩ | ⟨j, hj, e⟩)
    · have h1 := h.outer _ h0
      rcases h.own i (isSome_pick hi).2 with h2 | h2
      · omega
      · exact h1.2 h2
    · obtain ⟨h1, h2⟩ := isSome_pick hi
      obtain ⟨h3, h4⟩ := isSome_pick hj
      obtain rfl := h.inj j i h4 h2 e
      rw [h1] at h3; cases h3
    · exact h.obox j i hj (isSome_pick hi).2 e
  refine ⟨h.keeps, h.size, h.defers, fun s x hx => ?_, fun s g p x hx => ?_, fun i T cs hi => ?_, fun i j hi hj e => h.inj i j (isSome_pick hi).2 (isSome_pick hj).2 e, fun i hi => h.own i (isSome_pick hi).2, h.outer, h.owns.less hN, h.odist, fun i j hi hj => h.obox i j hi (isSome_pick hj).2, h.onx⟩
  · simp only [findB_frzXS] at hx
    cases hf : findB st.sl s with
    | none => rw [hf] at hx; cases hx
    | some y =>
      rw [hf] at hx
      simp only [Option.map_some, Option.some.injEq] at hx; subst hx
      exact (h.slots s y hf).frzX hb hN hn
  · simp only [findB_frzXG] at hx
    cases hf : findB st.gl s with
    | none => rw [hf] at hx; cases hx
    | some y =>
      rw [hf] at hx
      obtain ⟨g', p', y⟩ := y
      simp only [Option.map_some, Option.some.injEq, Prod.mk.injEq] at hx
      obtain ⟨rfl, rfl, rfl⟩ := hx
      have := h.guards s g' p' y hf
      exact ⟨fun e => (this.1 e).frzX hb hN hn, this.2⟩
  · obtain ⟨vs, h1, h2, h3⟩ := h.boxes i T cs (findB_pick hi).2
    exact ⟨vs, h1, h2.less hN, h3⟩
end Go.Sim

namespace Go.Sim
open Go.RowKit (Below)

/-- A recipe that makes a state smaller. -/
inductive Shr where
  | keep (ss : List Nat)
  | nilO (ss : List Nat) (s : Nat) (e : TypeId) (sz : Nat) (f : Nat → RV)
  | ren (ss : List Nat) (i j nx : Nat)
  | noBox (ds : List Nat)
  | re (ss : List Nat) (R : ReO) (nx : Nat)
  | frz
  | frzX
  | frzB (ds : List Nat)
  | both (a b : Shr)
  | alt (a b : Shr)
def Shr.run : Shr → St → Option St
  | .keep ss, st => some (st.keep ss)
  | .nilO ss s e sz f, st => st.nilO ss s e sz f
  | .ren ss i j nx, st => st.ren ss i j nx
  | .noBox ds, st => st.noBox ds
  | .re ss R nx, st => st.re ss R nx
  | .frz, st => some st.freeze
  | .frzX, st => some st.freezeX
  | .frzB ds, st => some (st.frzB ds)
  | .both a b, st => match a.run st with
    | some s => b.run s
    | none => none
  | .alt a b, st => match a.run st with
    | some s => some s
    | none => b.run st
theorem Shr.ok : ∀ (r : Shr) {st st' : St}, r.run st = some st' → Weaker st st'
  | .keep ss, st, st', h => by
    simp only [Shr.run, Option.some.injEq] at h
    exact h ▸ weaker_keep st ss
  | .nilO ss s e sz f, st, st', h => weaker_nilO ss s e sz f h
  | .ren ss i j nx, st, st', h => weaker_ren ss i j nx h
  | .noBox ds, st, st', h => weaker_noBox ds h
  | .re ss R nx, st, st', h => weaker_re ss R nx h
  | .frz, st, st', h => by
    simp only [Shr.run, Option.some.injEq] at h
    exact h ▸ fun _ _ _ β _ _ hr => ⟨β, hr.freeze⟩
  | .frzX, st, st', h => by
    simp only [Shr.run, Option.some.injEq] at h
    exact h ▸ fun _ _ _ β _ _ hr => ⟨β, hr.freezeX⟩
  | .frzB ds, st, st', h => by
    simp only [Shr.run, Option.some.injEq] at h
    exact h ▸ weaker_frzB st ds
  | .both a b, st, st', h => by
    simp only [Shr.run] at h
    split at h
    · rename_i s hs
      exact (Shr.ok a hs).trans (Shr.ok b h)
    · cases h
  | .alt a b, st, st', h => by
    simp only [Shr.run] at h
    split at h
    · rename_i s hs
      simp only [Option.some.injEq] at h; subst h
      exact Shr.ok a hs
    · exact Shr.ok b h

section
variable (P : Program)
/-- From every frame and world that st stands for, c ends as Q says. -/
def Wp (c : Code) (st : St) (Q : Exit → St → Prop) : Prop := ∀ (W : World) (N0 F : Nat → Prop) (β : Envr) (a : Act) (w : World), Rel W N0 F st β a w → c.wp P (Post W N0 F Q) a w
def onNormal (A : St → Prop) (Q : Exit → St → Prop) : Exit → St → Prop := fun e s => match e with
  | .normal => A s
  | e => Q e s
/-- Here Q holds. -/
def Here (st : St) (Q : Exit → St → Prop) : Prop := ∀ (W : World) (N0 F : Nat → Prop) (β : Envr) (a : Act) (w : World), Rel W N0 F st β a w → Post W N0 F Q .normal a w
end
def WpL (P : Program) : List Code → St → (Exit → St → Prop) → Prop
  | [], st, Q => Here st Q
  | c :: l, st, Q => Wp P c st (onNormal (fun s => WpL P l s Q) Q)
def vcL (τ : Tab) (sp : Spec) : List Code → St → (Exit → St → Prop) → Prop
  | [], st, Q => Q .normal st
  | c :: l, st, Q => vc τ sp c st (onNormal (fun s => vcL τ sp l s Q) Q)
def flat : Code → List Code
  | .seq x y => flat x ++ flat y
  | c => [c]

section
variable {P : Program}
theorem Wp.mono {c : Code} {st : St} {Q Q' : Exit → St → Prop} (h : Wp P c st Q) (hq : ∀ e s, Q e s → Q' e s) : Wp P c st Q' := fun W N0 F β a w hr =>
  wp_mono (h W N0 F β a w hr) fun e _ _ ⟨s, β', hr', hs⟩ => ⟨s, β', hr', hq e s hs⟩
theorem Wp.weak {c : Code} {st s2 : St} {Q : Exit → St → Prop} (hw : Weaker st s2) (h : Wp P c s2 Q) : Wp P c st Q := fun W N0 F β a w hr =>
  let ⟨β', hr'⟩ := hw W N0 F β a w hr; h W N0 F β' a w hr'
theorem onNormal_mono {A A' : St → Prop} {Q Q' : Exit → St → Prop} (ha : ∀ s, A s → A' s) (hq : ∀ e s, e ≠ .normal → Q e s → Q' e s) : ∀ e s, onNormal A Q e s → onNormal A' Q' e s := by
  intro e s h
  cases e with
  | normal => exact ha s h
  | exit i => exact hq _ s (fun e => by cases e) h
  | goto i => exact hq _ s (fun e => by cases e) h
  | ret => exact hq _ s (fun e => by cases e) h
  | panic i => exact hq _ s (fun e => by cases e) h
  | outgrown => exact hq _ s (fun e => by cases e) h
theorem onNormal_ne {A : St → Prop} {Q : Exit → St → Prop} {e : Exit} {s : St} (he : e ≠ .normal) (h : onNormal A Q e s) : Q e s := by
  cases e with
  | normal => exact absurd rfl he
  | exit i => exact h
  | goto i => exact h
  | ret => exact h
  | panic i => exact h
  | outgrown => exact h
theorem Here.weak {st s2 : St} {Q : Exit → St → Prop} (hw : Weaker st s2) (h : Here s2 Q) : Here st Q := fun W N0 F β a w hr =>
  let ⟨β', hr'⟩ := hw W N0 F β a w hr; h W N0 F β' a w hr'
theorem WpL.weak {l : List Code} {st s2 : St} {Q : Exit → St → Prop} (hw : Weaker st s2) (h : WpL P l s2 Q) : WpL P l st Q := by
  cases l with
  | nil => exact Here.weak hw h
  | cons c l => exact Wp.weak hw h
theorem Here.mono {st : St} {Q Q' : Exit → St → Prop} (h : Here st Q) (hq : ∀ e s, Q e s → Q' e s) : Here st Q' := fun W N0 F β a w hr =>
  let ⟨s, β', hr', hs⟩ := h W N0 F β a w hr; ⟨s, β', hr', hq _ s hs⟩
theorem WpL.mono : ∀ {l : List Code} {st : St} {Q Q' : Exit → St → Prop}, WpL P l st Q → (∀ e s, Q e s → Q' e s) → WpL P l st Q'
  | [], _, _, _, h, hq => Here.mono h hq
  | _ :: _, _, _, _, h, hq => Wp.mono h (onNormal_mono (fun _ hs => WpL.mono hs hq) fun e s _ => hq e s)

theorem flat_ok : ∀ (c : Code) (l : List Code) (st : St) (Q : Exit → St → Prop), WpL P (flat c ++ l) st Q → Wp P c st (onNormal (fun s => WpL P l s Q) Q) := by
  intro c
  induction c with
  | seq x y ihx ihy =>
    intro l st Q h W N0 F β a w hr
    simp only [flat, List.append_assoc] at h
    refine wp_seq (wp_mono (ihx _ st Q h W N0 F β a w hr) fun e a' w' hp => ?_)
    obtain ⟨s, β', hr', hs⟩ := hp
    cases e with
    | normal => exact ihy l s Q hs W N0 F β' a' w' hr'
    | exit i => exact ⟨s, β', hr', hs⟩
    | goto i => exact ⟨s, β', hr', hs⟩
    | ret => exact ⟨s, β', hr', hs⟩
    | panic i => exact ⟨s, β', hr', hs⟩
    | outgrown => exact ⟨s, β', hr', hs⟩
  | _ => intro l st Q h; exact h
/-- A body by its list. -/
theorem wp_flat {c : Code} {st : St} {Q : Exit → St → Prop} (h : WpL P (flat c) st Q) : Wp P c st Q := fun W N0 F β a w hr =>
  wp_mono (flat_ok c [] st Q (by rw [List.append_nil]; exact h) W N0 F β a w hr) fun e a' w' hp => by
    obtain ⟨s, β', hr', hs⟩ := hp
    cases e with
    | normal => exact hs W N0 F β' a' w' hr'
    | exit i => exact ⟨s, β', hr', hs⟩
    | goto i => exact ⟨s, β', hr', hs⟩
    | ret => exact ⟨s, β', hr', hs⟩
    | panic i => exact ⟨s, β', hr', hs⟩
    | outgrown => exact ⟨s, β', hr', hs⟩

section
variable {τ : Tab} [TabOk P τ] {sp : Spec}
theorem Wp.of_vc (hm : P.follows .mixedOrders = true) (hsp : SpecOk P sp) {c : Code} {st : St} {Q : Exit → St → Prop} (h : vc τ sp c st Q) : Wp P c st Q := fun _ _ _ β a w hr => vc_ok hm hsp c st Q h β a w hr
theorem vcL_then (hm : P.follows .mixedOrders = true) (hsp : SpecOk P sp) : ∀ (p r : List Code) (st : St) (M : St → Prop) (Q : Exit → St → Prop), vcL τ sp p st (onNormal M Q) → (∀ s, M s → WpL P r s Q) → WpL P (p ++ r) st Q
  | [], r, st, M, Q, h, hm' => hm' st h
  | c :: p, r, st, M, Q, h, hm' => Wp.mono (Wp.of_vc hm hsp h) (onNormal_mono (fun s hs => vcL_then hm hsp p r s M Q hs hm') fun _ _ he hq => onNormal_ne he hq)
theorem vcL_end (hm : P.follows .mixedOrders = true) (hsp : SpecOk P sp) : ∀ (p : List Code) (st : St) (Q : Exit → St → Prop), vcL τ sp p st Q → WpL P p st Q
  | [], st, Q, h => fun W N0 F β a w hr => ⟨st, β, hr, h⟩
  | c :: p, st, Q, h => Wp.mono (Wp.of_vc hm hsp h) (onNormal_mono (fun s hs => vcL_end hm hsp p s Q hs) fun _ _ _ hq => hq)

/-- Behind a recipe, one of the states 'out y'. -/
def To {Y : Type} (r : Shr) (J : Y → Prop) (out : Y → St) (s : St) : Prop := ∃ y, J y ∧ r.run s = some (out y)
/-- The first k items, then the rest from a smaller state. -/
theorem wpL_cut (hm : P.follows .mixedOrders = true) (hsp : SpecOk P sp) {l : List Code} {st : St} {Q : Exit → St → Prop} (k : Nat) {Y : Type} (r : Shr) (J : Y → Prop) (out : Y → St) (h : vcL τ sp (l.take k) st (onNormal (To r J out) Q))
    (hr : ∀ y, J y → WpL P (l.drop k) (out y) Q) : WpL P l st Q := by
  have := vcL_then hm hsp (l.take k) (l.drop k) st (To r J out) Q h fun s ⟨y, hy, hs⟩ => WpL.weak (r.ok hs) (hr y hy)
  rwa [List.take_append_drop] at this
theorem cutK (hm : P.follows .mixedOrders = true) (hsp : SpecOk P sp) {l : List Code} {st : St} {Q : Exit → St → Prop} (k : Nat) {Y : Type} (r : Shr) (J : Y → Prop) (out : Y → St) {K : Prop} (key : K) (he : K = vcL τ sp (l.take k) st (onNormal (To r J out) Q))
    (hr : ∀ y, J y → WpL P (l.drop k) (out y) Q) : WpL P l st Q := wpL_cut hm hsp k r J out (he ▸ key) hr
theorem endK (hm : P.follows .mixedOrders = true) (hsp : SpecOk P sp) {p : List Code} {st : St} {Q : Exit → St → Prop} {K : Prop} (key : K) (he : K = vcL τ sp p st Q) : WpL P p st Q := vcL_end hm hsp p st Q (he ▸ key)
end

def isLoopBlk : List Code → Bool
  | .block _ (.loop _) :: _ => true
  | _ => false
def blkId : List Code → Nat
  | .block id _ :: _ => id
  | _ => 0
def lpBody : List Code → List Code
  | .block _ (.loop c) :: _ => flat c
  | _ => []
def isBlk : List Code → Bool
  | .block _ _ :: _ => true
  | _ => false
def blkBody : List Code → List Code
  | .block _ c :: _ => flat c
  | _ => []

/-- What a round owes. -/
def loopQ {X Y : Type} (id : Nat) (inv : X → St) (m : X → Nat) (I : X → Prop) (r : Shr) (x : X) (r2 : Shr) (J : Y → Prop) (out : Y → St) (Q : Exit → St → Prop) : Exit → St → Prop := fun e s => match e with
  | .normal => ∃ x', m x' < m x ∧ I x' ∧ r.run s = some (inv x')
  | .exit i => match Nat.beq i id with
    | true => ∃ y, J y ∧ r2.run s = some (out y)
    | false => Q (.exit i) s
  | e => Q e s

theorem wpL_loop {l : List Code} (hl : isLoopBlk l = true) {X Y : Type} (inv : X → St) (m : X → Nat) (I : X → Prop) (r r2 : Shr) (J : Y → Prop) (out : Y → St) {Q : Exit → St → Prop} (x0 : X) (h0 : I x0)
    (hround : ∀ x, I x → WpL P (lpBody l) (inv x) (loopQ (blkId l) inv m I r x r2 J out Q)) (hrest : ∀ y, J y → WpL P l.tail (out y) Q) : WpL P l (inv x0) Q := by
  unfold isLoopBlk at hl
  split at hl
  · rename_i id c rest
    intro W N0 F β a w hr
    refine wp_block ?_
    refine wp_loop_nat (fun n a w => ∃ x β, Rel W N0 F (inv x) β a w ∧ I x ∧ m x = n) ?_ (n := m x0) ⟨x0, β, hr, h0, rfl⟩
    rintro n a w ⟨x, β1, hr1, hI, rfl⟩
    refine wp_mono (wp_flat (hround x hI) W N0 F β1 a w hr1) fun e a' w' hp => ?_
    obtain ⟨s, β', hr', hq⟩ := hp
    cases e with
    | normal =>
      obtain ⟨x', hlt, hI', hs⟩ := hq
      obtain ⟨β2, hr2⟩ := r.ok hs W N0 F β' a' w' hr'
      exact ⟨m x', hlt, x', β2, hr2, hI', rfl⟩
    | exit i =>
      simp only [loopQ, blkId] at hq
      simp only [Exit.then, Exit.inBlock]
      split at hq
      · rename_i hi
        rw [if_pos (Nat.eq_of_beq_eq_true hi)]
        obtain ⟨y, hy, hs⟩ := hq
        obtain ⟨β2, hr2⟩ := r2.ok hs W N0 F β' a' w' hr'
        exact ⟨_, β2, hr2, hrest y hy⟩
      · rename_i hi
        rw [if_neg (fun e => by rw [e] at hi; simp at hi)]
        exact ⟨s, β', hr', hq⟩
    | goto i => exact ⟨s, β', hr', hq⟩
    | ret => exact ⟨s, β', hr', hq⟩
    | panic i => exact ⟨s, β', hr', hq⟩
    | outgrown => exact ⟨s, β', hr', hq⟩
  · cases hl

/-- A block, taken apart. -/
def blkQ {Y : Type} (id : Nat) (r : Shr) (J : Y → Prop) (out : Y → St) (Q : Exit → St → Prop) : Exit → St → Prop := fun e s => match e with
  | .normal => ∃ y, J y ∧ r.run s = some (out y)
  | .exit i => match Nat.beq i id with
    | true => ∃ y, J y ∧ r.run s = some (out y)
    | false => Q (.exit i) s
  | e => Q e s
theorem wpL_block {l : List Code} (hl : isBlk l = true) {Y : Type} {st : St} (r : Shr) (J : Y → Prop) (out : Y → St) {Q : Exit → St → Prop}
    (h : WpL P (blkBody l) st (blkQ (blkId l) r J out Q)) (hrest : ∀ y, J y → WpL P l.tail (out y) Q) : WpL P l st Q := by
  unfold isBlk at hl
  split at hl
  · rename_i id c rest
    intro W N0 F β a w hr
    refine wp_block (wp_mono (wp_flat h W N0 F β a w hr) fun e a' w' hp => ?_)
    obtain ⟨s, β', hr', hq⟩ := hp
    cases e with
    | normal =>
      obtain ⟨y, hy, hs⟩ := hq
      obtain ⟨β2, hr2⟩ := r.ok hs W N0 F β' a' w' hr'
      exact ⟨_, β2, hr2, hrest y hy⟩
    | exit i =>
      simp only [blkQ, blkId] at hq
      simp only [Exit.inBlock]
      split at hq
      · rename_i hi
        rw [if_pos (Nat.eq_of_beq_eq_true hi)]
        obtain ⟨y, hy, hs⟩ := hq
        obtain ⟨β2, hr2⟩ := r.ok hs W N0 F β' a' w' hr'
        exact ⟨_, β2, hr2, hrest y hy⟩
      · rename_i hi
        rw [if_neg (fun e => by rw [e] at hi; simp at hi)]
        exact ⟨s, β', hr', hq⟩
    | goto i => exact ⟨s, β', hr', hq⟩
    | ret => exact ⟨s, β', hr', hq⟩
    | panic i => exact ⟨s, β', hr', hq⟩
    | outgrown => exact ⟨s, β', hr', hq⟩
  · cases hl

/-- A Go function returns what its body's list says. -/
theorem pure_of_wp {f : FuncId} {fn : Func} {c : Code} {τ : Tab} [TabOk P τ] (hf : P.funcs[f]? = some fn) (hb : fn.body = some c) {args : List RV} {x : SV} (hx : boxless x = true) (hn : args.length ≤ fn.ntmps)
    (h : Wp P c (start fn.ntmps args) (Ends τ fn.results x)) : Pure P f args x := by
  intro N w vs hN hargs
  have hrel : Rel w N (fun _ => False) (start fn.ntmps args) ⟨fun _ => 0, fun _ => undef⟩ { tmps := vs.toArray ++ Array.replicate (fn.ntmps - vs.toArray.size) undef, defers := [] } w := by
    refine ⟨Keeps.refl _ _, ?_, rfl, fun s y hy => ?_, fun s g p x hx => (by cases hx), fun i T cs hf => (by cases hf), fun i j hi => (by cases hi), fun i hi => (by cases hi), fun b hb => ⟨hN b hb, fun f => f⟩, fun i o hi => (by cases hi), fun i j b hi => (by cases hi), fun i j hi => (by cases hi), fun i hi => (by cases hi)⟩
    · have := hargs.1; simp [start]; omega
    · obtain ⟨r, rfl, _, hr⟩ := startL_mem (findB_mem hy)
      simp only [Nat.sub_zero] at hr
      have hlt : s < vs.length := by rw [hargs.1]; exact (List.getElem?_eq_some_iff.1 hr).1
      refine .d ?_
      have e : tv { tmps := vs.toArray ++ Array.replicate (fn.ntmps - vs.toArray.size) undef, defers := [] } s = vs[s] := by
        unfold tv
        simp [Array.getD_eq_getD_getElem?, Array.getElem?_append, hlt]
      rw [e]
      refine (hargs.2 s r _ hr (List.getElem?_eq_getElem hlt)).less fun b _ hb => ?_
      rcases hb with hb | ⟨i, hi, _⟩ | ⟨i, hi, _⟩
      · exact hb
      · cases hi
      · cases hi
  refine calls_of_wp hf hb (wp_mono (h _ _ _ _ _ _ hrel) fun e a' w' hp => ?_)
  obtain ⟨st', β', hr', he, hres⟩ := hp
  obtain ⟨v, hv, hd⟩ := result_ok (P := P) hr'.freeze hres
  cases e with
  | normal => exact ⟨hr'.defers, v, hv, v, rfl, fun β => (hd.any hx).less fun b _ hb => .inl hb, hr'.keeps.to_below⟩
  | ret => exact ⟨hr'.defers, v, hv, v, rfl, fun β => (hd.any hx).less fun b _ hb => .inl hb, hr'.keeps.to_below⟩
  | exit i => exact he.elim
  | goto l => exact he.elim
  | panic ch => exact he.elim
  | outgrown => exact he.elim
def bodyL (fn : Func) : List Code := flat (bodyOf fn)
theorem pure_list {τ : Tab} [TabOk P τ] {f : FuncId} (fn : Func) (hf : P.funcs[f]? = some fn) (hb : hasBody fn = true) {args : List RV} {x : SV} (hx : boxless x = true) (hn : Nat.ble args.length fn.ntmps = true)
    (h : WpL P (bodyL fn) (start fn.ntmps args) (Ends τ fn.results x)) : Pure P f args x := by
  unfold hasBody at hb
  cases hc : fn.body with
  | none => rw [hc] at hb; cases hb
  | some c =>
    refine pure_of_wp (τ := τ) hf hc hx (Nat.le_of_ble_eq_true hn) ?_
    unfold bodyL bodyOf at h
    rw [hc] at h
    exact wp_flat h
/-- One function at once. -/
theorem pure_vc {τ : Tab} [TabOk P τ] {sp : Spec} (hm : P.follows .mixedOrders = true) (hsp : SpecOk P sp) {f : FuncId} (fn : Func) (hf : P.funcs[f]? = some fn) (hb : hasBody fn = true) {args : List RV} {x : SV} (hx : boxless x = true) (hn : Nat.ble args.length fn.ntmps = true)
    {E : Prop} (key : E) (he : E = vcL τ sp (bodyL fn) (start fn.ntmps args) (Ends τ fn.results x)) : Pure P f args x :=
  pure_list (τ := τ) fn hf hb hx hn (vcL_end (τ := τ) hm hsp _ _ _ (he ▸ key))
/-- The end of a body, by its result. -/
abbrev Fin (y x : SV) : Prop := True ∧ some y = some x
theorem fin_of {y x : SV} (h : y = x) : Fin y x := ⟨trivial, h ▸ rfl⟩
end
end Go.Sim

