/- Calls, choices, and the interpreter's answer to an operation as a whole. Conditions: none. -/
import Derived.Test.YtekifbnnkcgipaaDoorSimG
namespace Go.Sim
open Go.RowKit (Below)

section
variable {P : Program} {τ : Tab} [TabOk P τ] {β : Envr} {N : Nat → Prop} {w : World}

theorem mux_ok {c : Bool} {a b : Operand} {p q : SV} {ps : List Prop} {x : SV} (h : mux c a b p q = some (ps, x)) {u v : Value} (hu : c = true → SDen β N w p u) (hv : c = false → SDen β N w q v)
    (ha : ∀ z, a = .const z → u = z) (hb : ∀ z, b = .const z → v = z) : ps = [] ∧ SDen β N w x (bif c then u else v) := by
  unfold mux at h
  split at h
  · rename_i s t
    split at h
    all_goals
      simp only [rv, Option.some.injEq, Prod.mk.injEq] at h
      obtain ⟨rfl, rfl⟩ := h
      refine ⟨rfl, ?_⟩
    · have hz := hb _ rfl
      cases c
      · subst hz; exact .d (.val _)
      · obtain rfl := (hu rfl).val; exact .d (.val _)
    · have hz := ha _ rfl
      cases c
      · obtain rfl := (hv rfl).val; exact .d (.val _)
      · subst hz; exact .d (.val _)
    · cases c
      · obtain rfl := (hv rfl).val; exact .d (.val _)
      · obtain rfl := (hu rfl).val; exact .d (.val _)
  · split at h
    · rename_i hk
      simp only [rv, Option.some.injEq, Prod.mk.injEq] at h
      obtain ⟨rfl, rfl⟩ := h
      have hk := of_decide_eq_true hk
      subst hk
      refine ⟨rfl, ?_⟩
      cases c
      · obtain rfl := (hv rfl).val; exact .d (.val _)
      · obtain rfl := (hu rfl).val; exact .d (.val _)
    · cases h
  · cases h

theorem evMinMax_ok {isMax : Bool} {p q : SV} {ps : List Prop} {x : SV} (h : evMinMax isMax p q = some (ps, x)) {u v : Value} (hu : SDen β N w p u) (hv : SDen β N w q v) (ts : Array TypeId) (t : TypeId) :
    Gives P β N w (bif isMax then Builtin.max_ ts t #[u, v] else Builtin.min_ ts t #[u, v]) x := by
  unfold evMinMax at h
  split at h
  · obtain rfl := hu.val; obtain rfl := hv.val
    rename_i k a k' b
    simp only [rv, Option.some.injEq, Prod.mk.injEq] at h
    obtain ⟨rfl, rfl⟩ := h
    cases isMax
    · refine .val ?_
      have : (if b < a then b else a) = min a b := by rw [Int.min_def]; split <;> split <;> omega
      simp [Builtin.min_, Builtin.min2, this]
    · refine .val ?_
      have : (if b > a then b else a) = max a b := by rw [Int.max_def]; split <;> split <;> omega
      simp [Builtin.max_, Builtin.max2, this]
  · cases h

/-- A call of a Go function by what its contract says. -/
theorem call_ok {sp : Spec} (hsp : SpecOk P sp) (hN : ∀ b, N b → b < w.heap.size) {o : Oper} {a : Act} {c : Call} {g : FuncId} {f : Operand} {args : List RV} {ps : List Prop} {x : SV} (ho : o.op = .call c) (hc : c.callee = .value f)
    (hf : a.eval f = .func (.func g) #[] #[]) (hargs : Cells N w args (c.args.toList.map a.eval)) (h : sp g args = some (ps, x)) (hp : ∀ p ∈ ps, p) : OpGives P β N w o a x := by
  obtain ⟨⟨fn, hfn, hname, hbody⟩, hpure⟩ := hsp g args ps x h hp
  intro K Q hK
  have hrun : (execOp a.eval o).run P w = .ok (.enter g (c.args.toList.map a.eval).toArray) w := by
    have e : (c.args.map a.eval) = (c.args.toList.map a.eval).toArray := by apply Array.ext'; simp
    have hb : ¬ fn.body = none := fun h => by rw [h] at hbody; cases hbody
    have hn : ¬ fn.name = "runtime.NumGoroutine" := fun h => by rw [h] at hname; simp at hname
    simp [execOp, ho, resolve, hc, hf, Deferred.ofValue, invoke, callFunc, hfn, hn, hb, e]
  unfold Oper.wp
  rw [hrun]
  show Calls P g _ w _
  refine (hpure N w _ hN hargs).mono fun e w' ⟨v, he, hx, hbl⟩ => ?_
  subst he
  exact hK v w' (hx β) hbl

theorem evCallee_ok {lk : Operand → Option SV} {a : Act} (hlk : ∀ x s, lk x = some s → SDen β N w s (a.eval x)) {f : Operand} {g : FuncId} (h : evCallee lk f = some g) : a.eval f = .func (.func g) #[] #[] := by
  unfold evCallee at h
  split at h
  · rename_i hl
    simp only [Option.some.injEq] at h; subst h
    exact (hlk _ _ hl).val
  · cases h

/-- A value that the model's operation gives. -/
theorem OpGives.of_gives {o : Oper} {a : Act} {x : SV} {s : Sem Value} (h : Gives P β N w s x) (he : execOp a.eval o = (do pure (.value (← s)))) : OpGives P β N w o a x := by
  obtain ⟨v, hv, hx⟩ := h
  exact .of_run (by rw [he]; simp [hv]) hx

theorem optLook_ok {lk : Operand → Option SV} {a : Act} (hlk : ∀ x s, lk x = some s → SDen β N w s (a.eval x)) {x : Option Operand} {r : Option SV} (h : optLook lk x = some r) :
    (∀ s, r = some s → ∃ u, x.map a.eval = some u ∧ SDen β N w s u) ∧ (r = none → x.map a.eval = none) := by
  unfold optLook at h
  split at h
  · simp only [Option.some.injEq] at h; subst h
    exact ⟨fun s hs => (by cases hs), fun _ => rfl⟩
  · split at h
    · rename_i x v hv
      simp only [Option.some.injEq] at h; subst h
      exact ⟨fun s hs => (by cases hs; exact ⟨_, rfl, hlk _ _ hv⟩), fun hn => (by cases hn)⟩
    · cases h

theorem bind_some' {α β : Type} {x : Option α} {f : α → Option β} {y : β} (h : x.bind f = some y) : ∃ a, x = some a ∧ f a = some y := by
  cases x with
  | none => cases h
  | some a => exact ⟨a, rfl, h⟩

theorem ev2_ok {lk : Operand → Option SV} {x y : Operand} {f : SV → SV → Res} {r : List Prop × SV} (h : ev2 lk x y f = some r) : ∃ a b, lk x = some a ∧ lk y = some b ∧ f a b = some r := by
  unfold ev2 at h
  split at h
  · rename_i a b h1 h2; exact ⟨a, b, h1, h2, h⟩
  · cases h

set_option maxHeartbeats 1000000 in
theorem evOp_ok {sp : Spec} (hsp : SpecOk P sp) (hN : ∀ b, N b → b < w.heap.size) {bx : List (Nat × TypeId × List RV)} (hbx : BoxOk β N w bx) {lkG : List (Nat × Bool) → Operand → Option SV} {o : Oper} {a : Act}
    (hlk : ∀ G x s, (∀ gp ∈ G, tv a gp.1 = .bool gp.2) → lkG G x = some s → SDen β N w s (a.eval x)) {ps : List Prop} {x : SV} (h : evOp τ sp bx lkG o.op = some (ps, x)) (hp : ∀ p ∈ ps, p) : OpGives P β N w o a x := by
  have hl : ∀ x s, lkG [] x = some s → SDen β N w s (a.eval x) := fun x s hx => hlk [] x s (fun gp hgp => by cases hgp) hx
  unfold evOp at h
  dsimp only at h
  split at h
  · rename_i y ho
    obtain ⟨v, h1, h2⟩ := bind_some' h
    simp only [Option.some.injEq, Prod.mk.injEq] at h2; obtain ⟨rfl, rfl⟩ := h2
    exact .of_run (by simp [execOp, ho]) (hl _ _ h1)
  · rename_i y ho
    obtain ⟨v, h1, h2⟩ := bind_some' h
    simp only [Option.some.injEq, Prod.mk.injEq] at h2; obtain ⟨rfl, rfl⟩ := h2
    exact .of_run (by simp [execOp, ho]) (hl _ _ h1)
  · rename_i s p q ho
    split at h
    · rename_i c u v h1 h2 h3
      have hc : a.eval (.tmp s) = .bool c := (hl _ _ h1).val
      obtain ⟨rfl, hx⟩ := mux_ok (u := a.eval p) (v := a.eval q) h (fun hcc => hlk [(s, true)] _ _ (fun gp hgp => by obtain rfl := List.mem_singleton.1 hgp; rw [← hcc]; exact hc) h2)
        (fun hcc => hlk [(s, false)] _ _ (fun gp hgp => by obtain rfl := List.mem_singleton.1 hgp; rw [← hcc]; exact hc) h3) (fun z hz => by rw [hz]; rfl) (fun z hz => by rw [hz]; rfl)
      refine .of_run ?_ hx
      simp only [execOp, ho, hc, asBool]
      cases c <;> rfl
    · cases h
  · rename_i op T y z u ho
    obtain ⟨p, q, h1, h2, h3⟩ := ev2_ok h
    exact .of_gives (evBin_ok h3 hp (hl _ _ h1) (hl _ _ h2) y z) (by simp [execOp, ho])
  · rename_i op T y ho
    obtain ⟨v, h1, h2⟩ := bind_some' h
    exact .of_gives (evUn_ok h2 (hl _ _ h1)) (by simp [execOp, ho])
  · rename_i s t y ho
    obtain ⟨v, h1, h2⟩ := bind_some' h
    exact .of_gives (evConv_ok h2 (hl _ _ h1)) (by simp [execOp, ho])
  · rename_i y i ho
    obtain ⟨v, h1, h2⟩ := bind_some' h
    exact .of_gives (evExtract_ok h2 (hl _ _ h1)) (by simp [execOp, ho])
  · rename_i T y i ho
    obtain ⟨v, h1, h2⟩ := bind_some' h
    exact .of_gives (evFieldAddr_ok h2 (hl _ _ h1)) (by simp [execOp, ho])
  · rename_i T y i ho
    obtain ⟨v, h1, h2⟩ := bind_some' h
    exact .of_gives (evField_ok h2 (hl _ _ h1)) (by simp [execOp, ho])
  · rename_i T y ho
    obtain ⟨v, h1, h2⟩ := bind_some' h
    exact .of_gives (evLoad_ok hbx h2 (hl _ _ h1)) (by simp [execOp, ho])
  · rename_i T y i ho
    obtain ⟨p, q, h1, h2, h3⟩ := ev2_ok h
    exact .of_gives (evIndex_ok h3 hp (hl _ _ h1) (hl _ _ h2)) (by simp [execOp, ho])
  · rename_i T y i ho
    obtain ⟨p, q, h1, h2, h3⟩ := ev2_ok h
    exact .of_gives (evIndexAddr_ok h3 hp (hl _ _ h1) (hl _ _ h2)) (by simp [execOp, ho])
  · rename_i T y lo hi ho
    split at h
    · rename_i v l r h1 h2 h3
      obtain ⟨a1, a2⟩ := optLook_ok hl h2
      obtain ⟨b1, b2⟩ := optLook_ok hl h3
      exact .of_gives (evSlice_ok h hp (hl _ _ h1) a1 a2 b1 b2) (by simp [execOp, ho])
    · cases h
  · rename_i y ho
    obtain ⟨v, h1, h2⟩ := bind_some' h
    rcases evNilCheck_ok h2 (hl _ _ h1) with ⟨⟨p, hv⟩, hx⟩ | ⟨⟨g, p, q, hv⟩, hx⟩
    · exact .of_run (by simp [execOp, ho, hv]) hx
    · exact .of_run (by simp [execOp, ho, hv]) hx
  · rename_i T parts ho
    exact .of_gives (evBuild_ok hl h) (by simp [execOp, ho])
  · rename_i T len parts ho
    exact evBuildSlice_ok hl hN ho h
  · rename_i c ho
    unfold evCall at h
    split at h
    · rename_i hc
      split at h
      · rename_i y T h1 h2
        obtain ⟨v, h3, h4⟩ := bind_some' h
        obtain ⟨u, hu, hx⟩ := evLen_ok (P := P) h4 (hl _ _ h3) o.type
        have e1 : c.args = #[y] := by apply Array.ext'; simpa using h1
        have e2 : c.argTypes = #[T] := by apply Array.ext'; simpa using h2
        exact .of_run (by simp [execOp, ho, resolve, hc, e1, e2, invoke, builtin, hu]) hx
      · cases h
    · rename_i hc
      split at h
      · rename_i y z h1
        split at h
        · rename_i p q h3 h4
          obtain ⟨u, hu, hx⟩ := evMinMax_ok (P := P) h (hl _ _ h3) (hl _ _ h4) c.argTypes o.type
          have e1 : c.args = #[y, z] := by apply Array.ext'; simpa using h1
          simp only [cond_true] at hu
          exact .of_run (by simp [execOp, ho, resolve, hc, e1, invoke, builtin, hu]) hx
        · cases h
      · cases h
    · rename_i hc
      split at h
      · rename_i y z h1
        split at h
        · rename_i p q h3 h4
          obtain ⟨u, hu, hx⟩ := evMinMax_ok (P := P) h (hl _ _ h3) (hl _ _ h4) c.argTypes o.type
          have e1 : c.args = #[y, z] := by apply Array.ext'; simpa using h1
          simp only [cond_false] at hu
          exact .of_run (by simp [execOp, ho, resolve, hc, e1, invoke, builtin, hu]) hx
        · cases h
      · cases h
    · rename_i f hc
      split at h
      · rename_i g args h1 h2
        exact call_ok hsp hN ho hc (evCallee_ok hl h1) (lookAll_ok hl _ _ h2) h hp
      · cases h
    · cases h
  · cases h

end
end Go.Sim
