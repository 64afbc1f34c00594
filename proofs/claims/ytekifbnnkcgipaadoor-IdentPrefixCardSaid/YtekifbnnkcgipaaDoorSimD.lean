/- An operation that the interpreter answers runs in the model to a value that the answer says, and leaves memory as it was but for new blocks. Conditions: none. -/
import Derived.Test.YtekifbnnkcgipaaDoorSimC
namespace Go.Sim
open Go.RowKit (Below)

/-- A call of g with data as args says enters a Go body and returns what x says; it may make new blocks alone. -/
def Enters (P : Program) (g : FuncId) : Prop := ∃ fn, P.funcs[g]? = some fn ∧ (fn.name == "runtime.NumGoroutine") = false ∧ fn.body.isSome = true
def Pure (P : Program) (g : FuncId) (args : List RV) (x : SV) : Prop :=
  ∀ (N : Nat → Prop) (w : World) (vs : List Value), (∀ b, N b → b < w.heap.size) → Cells N w args vs →
    Calls P g vs.toArray w fun e w' => ∃ v, e = .returned v ∧ (∀ β, SDen β N w' x v) ∧ Below w.heap.size w w'
def SpecOk (P : Program) (sp : Spec) : Prop := ∀ g args ps x, sp g args = some (ps, x) → (∀ p ∈ ps, p) → Enters P g ∧ Pure P g args x

def tv (a : Act) (s : Nat) : Value := a.tmps.getD s undef

/-- What the operation does, whatever follows it. -/
def OpGives (P : Program) (β : Envr) (N : Nat → Prop) (w : World) (o : Oper) (a : Act) (x : SV) : Prop :=
  ∀ (K : Act → World → Prop) (Q : Exit → Act → World → Prop), (∀ v w', SDen β N w' x v → Below w.heap.size w w' → K (a.put o.dst v) w') → o.wp P a w K Q

section
variable {P : Program} {τ : Tab} [TabOk P τ] {β : Envr} {N : Nat → Prop} {w : World}

theorem OpGives.of_run {o : Oper} {a : Act} {x : SV} {v : Value} (h : (execOp a.eval o).run P w = .ok (.value v) w) (hx : SDen β N w x v) : OpGives P β N w o a x := by
  intro K Q hK
  unfold Oper.wp
  rw [h]
  exact hK v w hx (Below.refl _ _)

/-- What the model's part of an operation gives: a value, nothing else. -/
def Gives (P : Program) (β : Envr) (N : Nat → Prop) (w : World) (s : Sem Value) (x : SV) : Prop := ∃ v, s.run P w = .ok v w ∧ SDen β N w x v

theorem Gives.val {s : Sem Value} {v : Value} (h : s.run P w = .ok v w) : Gives P β N w s (.d (.val v)) := ⟨v, h, .d (.val v)⟩
theorem Gives.mk {s : Sem Value} {v : Value} {x : SV} (h : s.run P w = .ok v w) (hx : SDen β N w x v) : Gives P β N w s x := ⟨v, h, hx⟩

theorem evInt_ok {op : BinOp} {k : IntKind} {a b : Int} {T : TypeId} {ps : List Prop} {x : SV} (h : evInt op k a b = some (ps, x)) (hp : ∀ p ∈ ps, p) :
    Gives P β N w (binOp op T (.int k a) (.int k b)) x := by
  cases op <;> simp only [evInt, rv, Option.some.injEq, Prod.mk.injEq, reduceCtorEq] at h <;> obtain ⟨rfl, rfl⟩ := h
  all_goals refine .val ?_
  all_goals first
    | (simp [binOp, Op.intArith]; done)
    | (simp [binOp, Op.intCmp]; done)
    | (have hb : b ≠ 0 := hp _ (List.mem_singleton.2 rfl)
       simp [binOp, Op.intDiv, hb]; done)

theorem evStr_ok {op : BinOp} {s t : ByteArray} {T : TypeId} {ps : List Prop} {x : SV} (h : evStr op s t = some (ps, x)) (hp : ∀ p ∈ ps, p) :
    Gives P β N w (binOp op T (.string s) (.string t)) x := by
  cases op <;> simp only [evStr, rv, Option.some.injEq, Prod.mk.injEq, reduceCtorEq] at h <;> obtain ⟨rfl, rfl⟩ := h
  all_goals refine .val ?_
  case add =>
    have hb : ((s.size + t.size : Nat) : Int) ≤ IntKind.i64.max := hp _ (List.mem_singleton.2 rfl)
    simp only [binOp, Op.stringOp]
    rw [if_neg (by omega)]
    rfl
  all_goals simp [binOp, Op.stringOp]

theorem equalIn_bool (d : Nat) {T : TypeId} (ht : Ty τ T = some .bool) (s t : Bool) : (Op.equalIn (d + 1) T (.bool s) (.bool t)).run P w = .ok (s == t) w := by
  simp [Op.equalIn, run_ty ht]
theorem equalIn_func (d : Nat) {T : TypeId} {as bs : Array TypeId} {va : Bool} (ht : Ty τ T = some (.func as bs va)) (f : Fn) (x y : Array Value) : (Op.equalIn (d + 1) T (.func f x y) .nilFunc).run P w = .ok false w := by
  simp [Op.equalIn, run_ty ht]
theorem equalIn_nilFunc (d : Nat) {T : TypeId} {as bs : Array TypeId} {va : Bool} (ht : Ty τ T = some (.func as bs va)) : (Op.equalIn (d + 1) T .nilFunc .nilFunc).run P w = .ok true w := by
  simp [Op.equalIn, run_ty ht]
theorem equalIn_ptr (d : Nat) {T e : TypeId} (ht : Ty τ T = some (.pointer e)) (a : Addr) : (Op.equalIn (d + 1) T (.pointer (some a)) (.pointer none)).run P w = .ok false w := by
  simp [Op.equalIn, run_ty ht]
theorem equalIn_nilPtr (d : Nat) {T e : TypeId} (ht : Ty τ T = some (.pointer e)) : (Op.equalIn (d + 1) T (.pointer none) (.pointer none)).run P w = .ok true w := by
  simp [Op.equalIn, run_ty ht]

theorem bin_eql {T : TypeId} {u v : Value} {r : Bool} (hb : binOp .eql T u v = (do pure (.bool (← Op.equal T u v)))) (h : (Op.equalIn (9999 + 1) T u v).run P w = .ok r w) :
    (binOp .eql T u v).run P w = .ok (.bool r) w := by
  have h' : (Op.equal T u v).run P w = .ok r w := h
  rw [hb]; simp [h']
theorem bin_neq {T : TypeId} {u v : Value} {r : Bool} (hb : binOp .neq T u v = (do pure (.bool (!(← Op.equal T u v))))) (h : (Op.equalIn (9999 + 1) T u v).run P w = .ok r w) :
    (binOp .neq T u v).run P w = .ok (.bool (!r)) w := by
  have h' : (Op.equal T u v).run P w = .ok r w := h
  rw [hb]; simp [h']

theorem evBool_ok {op : BinOp} {s t : Bool} {T : TypeId} {ps : List Prop} {x : SV} (h : evBool τ op T s t = some (ps, x)) :
    Gives P β N w (binOp op T (.bool s) (.bool t)) x := by
  unfold evBool at h
  split at h
  · rename_i ht
    cases op <;> simp only [rv, Option.some.injEq, Prod.mk.injEq, reduceCtorEq] at h <;> obtain ⟨rfl, rfl⟩ := h
    · exact .val (bin_eql rfl (equalIn_bool _ ht s t))
    · exact .val (bin_neq rfl (equalIn_bool _ ht s t))
  · cases h

theorem evNil_ok {op : BinOp} {here : Bool} {u v : Value} {T : TypeId} {ps : List Prop} {x : SV} (h : evNil op here = some (ps, x))
    (he : (Op.equalIn (9999 + 1) T u v).run P w = .ok here w) (h1 : binOp .eql T u v = (do pure (.bool (← Op.equal T u v)))) (h2 : binOp .neq T u v = (do pure (.bool (!(← Op.equal T u v))))) :
    Gives P β N w (binOp op T u v) x := by
  cases op <;> simp only [evNil, rv, Option.some.injEq, Prod.mk.injEq, reduceCtorEq] at h <;> obtain ⟨rfl, rfl⟩ := h
  · exact .val (bin_eql h1 he)
  · exact .val (bin_neq h2 he)

def plainPair : Value → Value → Bool
  | .nilIface, .nilIface => false
  | .agg _, .agg _ => false
  | _, _ => true

theorem eqGuard_plain {op : BinOp} {T : TypeId} {x y : Operand} {u v : Value} (h : plainPair u v = true) :
    (eqGuard op T x y u v).run P w = .ok () w := by
  unfold eqGuard
  cases op <;> first | rfl | (cases u <;> cases v <;> first | rfl | (simp [plainPair] at h))

/-- What stands for plain data. -/
theorem SDen.val {v u : Value} (h : SDen β N w (.d (.val v)) u) : u = v := by
  cases h with
  | d h => cases h with
    | val => rfl

theorem evBin_ok {op : BinOp} {T : TypeId} {p q : SV} {ps : List Prop} {x : SV} (h : evBin τ op T p q = some (ps, x)) (hp : ∀ p ∈ ps, p) {u v : Value}
    (hu : SDen β N w p u) (hv : SDen β N w q v) (ox oy : Operand) : Gives P β N w (do eqGuard op T ox oy u v; binOp op T u v) x := by
  have key : Gives P β N w (binOp op T u v) x ∧ plainPair u v = true := by
    unfold evBin at h
    split at h
    · obtain rfl := hu.val; obtain rfl := hv.val
      split at h
      · rename_i k a k' b _ hk
        obtain rfl : k = k' := by simpa [sameKind] using hk
        exact ⟨evInt_ok h hp, rfl⟩
      · cases h
    · obtain rfl := hu.val; obtain rfl := hv.val
      exact ⟨evStr_ok h hp, rfl⟩
    · obtain rfl := hu.val; obtain rfl := hv.val
      exact ⟨evBool_ok h, rfl⟩
    · obtain rfl := hu.val; obtain rfl := hv.val
      split at h
      · rename_i ht; exact ⟨evNil_ok h (equalIn_func _ ht _ _ _) rfl rfl, rfl⟩
      · cases h
    · obtain rfl := hu.val; obtain rfl := hv.val
      split at h
      · rename_i ht; exact ⟨evNil_ok h (equalIn_nilFunc _ ht) rfl rfl, rfl⟩
      · cases h
    · obtain rfl := hv.val
      cases hu
      split at h
      · rename_i ht; exact ⟨evNil_ok h (equalIn_ptr _ ht _) rfl rfl, rfl⟩
      · cases h
    · obtain rfl := hu.val; obtain rfl := hv.val
      split at h
      · rename_i ht; exact ⟨evNil_ok h (equalIn_nilPtr _ ht) rfl rfl, rfl⟩
      · cases h
    · cases h
  obtain ⟨⟨y, hy, hd⟩, hg⟩ := key
  exact ⟨y, by simp [eqGuard_plain hg, hy], hd⟩

theorem evUn_ok {op : UnOp} {p : SV} {ps : List Prop} {x : SV} (h : evUn op p = some (ps, x)) {u : Value} (hu : SDen β N w p u) : Gives P β N w (Op.unary op u) x := by
  unfold evUn at h
  split at h
  · obtain rfl := hu.val
    cases op <;> simp only [rv, Option.some.injEq, Prod.mk.injEq, reduceCtorEq] at h
    obtain ⟨rfl, rfl⟩ := h
    exact .val rfl
  · obtain rfl := hu.val
    cases op <;> simp only [rv, Option.some.injEq, Prod.mk.injEq, reduceCtorEq] at h
    obtain ⟨rfl, rfl⟩ := h
    exact .val rfl
  · cases h

theorem numsFrom_ok {f : Nat → RV} : ∀ {m k : Nat} {l : List Int}, numsFrom f k m = some l → l.length = m ∧ ∀ j, j < m → f (k + j) = .val (.int .u8 (l.getD j 0))
  | 0, k, l, h => by simp [numsFrom] at h; subst h; exact ⟨rfl, fun j hj => absurd hj (Nat.not_lt_zero j)⟩
  | m + 1, k, l, h => by
    simp only [numsFrom] at h
    split at h
    · rename_i x r hx hr
      simp only [Option.some.injEq] at h; subst h
      obtain ⟨h1, h2⟩ := numsFrom_ok hr
      refine ⟨by simp [h1], fun j hj => ?_⟩
      cases j with
      | zero => simpa using hx
      | succ j =>
        have := h2 j (by omega)
        rw [show k + (j + 1) = k + 1 + j by omega]
        simpa using this
    · cases h

theorem evConv_ok {s t : TypeId} {p : SV} {ps : List Prop} {x : SV} (h : evConv τ s t p = some (ps, x)) {u : Value} (hu : SDen β N w p u) : Gives P β N w (convert s t u) x := by
  unfold evConv at h
  split at h
  · rename_i e n f h1 h2
    split at h
    · rename_i h3
      split at h
      · rename_i l hl
        simp only [rv, Option.some.injEq, Prod.mk.injEq] at h
        obtain ⟨rfl, rfl⟩ := h
        obtain ⟨n1, n2⟩ := numsFrom_ok hl
        cases hu with
        | d hu =>
          cases hu with
          | nil =>
            have : l = [] := List.eq_nil_of_length_eq_zero n1
            subst this
            exact .val (run_convert_bytes_nil w s e (TabOk.ty _ _ h1) (TabOk.ty _ _ h3) _ _ t (TabOk.ty _ _ h2))
          | row _ _ _ b o cap c hcap hb hN hsz hc ho hd =>
            refine .val (run_convert_bytes_arg w s e (TabOk.ty _ _ h1) (TabOk.ty _ _ h3) b o _ cap l n1 (fun i hi => ?_) t (TabOk.ty _ _ h2))
            have h4 := hc i 0 hi (by omega)
            rw [show o + (i * 1 + 0) = o + i by omega] at h4
            rw [h4]
            have h5 := n2 i hi
            rw [Nat.zero_add] at h5
            have h6 := hd i 0 (.val (.int .u8 (l.getD i 0))) hi (by rw [h5]; rfl)
            generalize c i 0 = y at h6
            cases h6
            rfl
      · cases h
    · cases h
  · rename_i h1 h2
    obtain rfl := hu.val
    simp only [rv, Option.some.injEq, Prod.mk.injEq] at h
    obtain ⟨rfl, rfl⟩ := h
    exact .val (by simp [convert, run_ty h1, run_ty h2, Conv.intToInt])
  · rename_i h1 h2
    obtain rfl := hu.val
    simp only [rv, Option.some.injEq, Prod.mk.injEq] at h
    obtain ⟨rfl, rfl⟩ := h
    exact .val (by simp [convert, run_ty h1, run_ty h2])
  · cases h

theorem evExtract_ok {p : SV} {i : Nat} {ps : List Prop} {x : SV} (h : evExtract p i = some (ps, x)) {u : Value} (hu : SDen β N w p u) : Gives P β N w (Instr.extract u i) x := by
  unfold evExtract at h
  split at h
  · split at h
    · rename_i l _ y hy
      simp only [Option.some.injEq, Prod.mk.injEq] at h
      obtain ⟨rfl, rfl⟩ := h
      cases hu with
      | tup _ vs hl hd =>
        have hlt : i < l.length := (List.getElem?_eq_some_iff.1 hy).1
        have hv : vs[i]? = some (vs[i]'(by omega)) := List.getElem?_eq_getElem _
        exact .mk (by simp [Instr.extract, hv]) (hd _ _ _ hy hv)
    · cases h
  · cases h

theorem fieldOf_ok {T : TypeId} {i off : Nat} {t : TypeId} (h : fieldOf τ T i = some (off, t)) : ∃ fs f, Ty τ T = some (.struct fs) ∧ fs[i]? = some f ∧ f.offset = off ∧ f.type = t := by
  unfold fieldOf at h
  split at h
  · rename_i fs ht
    split at h
    · rename_i f hf
      simp only [Option.some.injEq, Prod.mk.injEq] at h
      exact ⟨fs, f, ht, hf, h.1, h.2⟩
    · cases h
  · cases h

theorem evFieldAddr_ok {T : TypeId} {p : SV} {i : Nat} {ps : List Prop} {x : SV} (h : evFieldAddr τ T p i = some (ps, x)) {u : Value} (hu : SDen β N w p u) : Gives P β N w (Instr.fieldAt T u i) x := by
  unfold evFieldAddr at h
  split at h
  · rename_i off t hf
    obtain ⟨fs, f, h1, h2, rfl, rfl⟩ := fieldOf_ok hf
    split at h
    · rename_i s hs
      have hpl : ∀ a : Addr, (fieldPlace a f).run P w = .ok (a.add f.offset) w := fun a => by simp [fieldPlace, run_size hs]
      have hrun : ∀ a : Addr, (Instr.fieldAt T (.pointer (some a)) i).run P w = .ok (.pointer (some (a.add f.offset))) w := fun a => by
        simp [Instr.fieldAt, run_ty h1, h2, Instr.sureAddr, hpl]
      split at h
      · simp only [Option.some.injEq, Prod.mk.injEq] at h
        obtain ⟨rfl, rfl⟩ := h
        cases hu
        exact .mk (hrun _) (by rw [add_at]; exact .loc _ _)
      · simp only [Option.some.injEq, Prod.mk.injEq] at h
        obtain ⟨rfl, rfl⟩ := h
        cases hu with
        | elem _ _ _ _ _ b o' c hi hb hN hsz hc ho hd =>
          exact .mk (hrun _) (by rw [add_at, Nat.add_assoc, Nat.add_assoc]; exact .elem _ _ _ _ _ b o' c hi hb hN hsz hc ho hd)
      · cases h
    · cases h
  · cases h

theorem evField_ok {T : TypeId} {p : SV} {i : Nat} {ps : List Prop} {x : SV} (h : evField τ T p i = some (ps, x)) {u : Value} (hu : SDen β N w p u) : Gives P β N w (Instr.field T u i) x := by
  unfold evField at h
  split at h
  · rename_i off t l hf
    obtain ⟨fs, f, h1, h2, rfl, rfl⟩ := fieldOf_ok hf
    cases hq : partR τ f.type l f.offset with
    | none => simp [hq] at h
    | some r =>
      simp only [hq, Option.bind_some, rv, Option.some.injEq, Prod.mk.injEq] at h
      obtain ⟨rfl, rfl⟩ := h
      cases hu with
      | d hu => cases hu with
        | agg _ vs hl hd =>
          obtain ⟨v, hv, hr⟩ := partR_ok (P := P) hq hl hd w
          exact .mk (v := v) (by simp [Instr.field, run_ty h1, h2, asAgg, hv]) (.d hr)
  · cases h

/-- The boxes lie in memory as they are said. -/
def BoxOk (β : Envr) (N : Nat → Prop) (w : World) (bx : List (Nat × TypeId × List RV)) : Prop :=
  ∀ i T cs, findB bx i = some (T, cs) → ∃ vs : List Value, w.heap[β.b i]? = some (.cells vs.toArray T (0, 0)) ∧ Cells N w cs vs ∧ (∀ v ∈ vs, v.oneCell' = true)

theorem evLoad_ok {bx : List (Nat × TypeId × List RV)} (hbx : BoxOk β N w bx) {T : TypeId} {p : SV} {ps : List Prop} {x : SV} (h : evLoad τ bx T p = some (ps, x)) {u : Value} (hu : SDen β N w p u) :
    Gives P β N w (Instr.loadAt T u) x := by
  unfold evLoad at h
  split at h
  · rename_i i off
    split at h
    · rename_i T' cs hf
      cases hq : partR τ T cs off with
      | none => simp [hq] at h
      | some r =>
        simp only [hq, Option.bind_some, rv, Option.some.injEq, Prod.mk.injEq] at h
        obtain ⟨rfl, rfl⟩ := h
        cases hu
        obtain ⟨vs, hh, ⟨hl, hd⟩, _⟩ := hbx _ _ _ hf
        obtain ⟨v, hv, hr⟩ := load_ok (P := P) (w := w) (N := N) (b := β.b i) (o := 0) hq (fun j => vs.getD j undef) (fun j hj => by simp [World.cell?, hh, List.getD, hl, hj]) (fun j y hj => by
          have hlt : j < cs.length := (List.getElem?_eq_some_iff.1 hj).1
          have : vs[j]? = some (vs[j]'(by omega)) := List.getElem?_eq_getElem _
          simp only [List.getD, this, Option.getD_some]
          exact hd _ _ _ hj this)
        exact .mk (v := v) (by simpa [Instr.loadAt, Instr.sureAddr] using hv) (.d hr)
    · cases h
  · rename_i sz n f k off
    cases hq : partR τ T (f k).cells off with
    | none => simp [hq] at h
    | some r =>
      simp only [hq, Option.bind_some, rv, Option.some.injEq, Prod.mk.injEq] at h
      obtain ⟨rfl, rfl⟩ := h
      cases hu with
      | elem _ _ _ _ _ b o c hi hb hN hsz hc ho hd =>
        obtain ⟨v, hv, hr⟩ := load_ok (P := P) (w := w) (N := N) (b := b) (o := o + k * sz) hq (fun j => c k j) (fun j hj => by rw [Nat.add_assoc]; exact hc k j hi (by rw [hsz k hi] at hj; exact hj)) (fun j y hj => hd k j y hi hj)
        rw [Nat.add_assoc] at hv
        exact .mk (v := v) (by simpa [Instr.loadAt, Instr.sureAddr] using hv) (.d hr)
  · cases h

end
end Go.Sim
