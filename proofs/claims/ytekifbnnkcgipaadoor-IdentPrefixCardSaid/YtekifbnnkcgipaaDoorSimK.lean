/- One operation, and a plain region. Conditions: none. -/
import Derived.Test.YtekifbnnkcgipaaDoorSimP
namespace Go.Sim
open Go.RowKit (Below)

/-- The guards that stand behind slot g being p, and their facts. -/
def chain (find : Nat → Option SV) (g : Nat) (p : Bool) : Option (List (Nat × Bool) × List Prop) :=
  match find g with
  | some (.d (.val (.bool b))) => some ([(g, p)], [b = p])
  | some (.grd h q (.d (.val (.bool b)))) => some ([(g, p), (h, q)], [b = p])
  | _ => none

def dstOf (ops : Array Oper) (j : Nat) : Option Nat := (ops[j]?).bind (·.dst)

/-- What an operation's guard says: no guard; or the guards that hold where it runs, and the guard's slot. -/
def guardOf (find : Nat → Option SV) (ops : Array Oper) (g : Option (Nat × Bool)) : Option (List (Nat × Bool) × List Prop × Option (Nat × Bool)) :=
  match g with
  | none => some ([], [], none)
  | some (j, p) => match dstOf ops j with
    | some s => match chain find s p with
      | some (l, ps) => some (l, ps, some (s, p))
      | none => none
    | none => none

def imps : List Prop → Prop → Prop
  | [], q => q
  | p :: l, q => p → imps l q
theorem imps_of {q : Prop} : ∀ {l : List Prop}, imps l q → (∀ p ∈ l, p) → q
  | [], h, _ => h
  | p :: _, h, hl => imps_of (h (hl p List.mem_cons_self)) (fun r hr => hl r (List.mem_cons_of_mem _ hr))

def wrapG : Option (Nat × Bool) → SV → SV
  | none, x => x
  | some (g, p), x => .grd g p x

/-- An operation that leaves all boxes as they are: conditions and the entry of its slot. -/
def stepV (τ : Tab) (sp : Spec) (ops : Array Oper) (bx : List (Nat × TypeId × List RV)) (find : Nat → Option SV) (o : Oper) : Res :=
  match guardOf find ops o.guard with
  | some (G, hs, g) => match evOp τ sp bx (fun G' => lookF find (G' ++ G)) o.op with
    | some (ps, x) => match isG x with
      | false => some (ps.map (imps hs), wrapG g x)
      | true => none
    | none => match g with
      | some _ => some ([imps hs False], wrapG g (.d (.val (.bool false))))
      | none => none
  | none => none

/-- An operation that makes or writes a box. -/
def noPs : Option St → Option (List Prop × St)
  | some st => some ([], st)
  | none => none

def eff (τ : Tab) (st : St) (o : Oper) : Option (List Prop × St) :=
  match o.op, o.dst with
  | .box T v, some d => match st.look [] v with
    | some (.d r) => match oneR r || isAggR r with
      | true => noPs (st.newBox d T r.cells)
      | false => none
    | _ => none
  | .alloc T, some d => match zeroOf τ T with
    | some r => match oneR r || isAggR r with
      | true => noPs (st.newBox d T r.cells)
      | false => none
    | none => none
  | .store T x v, none => match st.look [] x, st.look [] v with
    | some (.loc i off), some (.d r) => match TySize τ T, oneR r || isAggR r with
      | some s, true => match Nat.beq s r.cells.length with
        | true => noPs (st.store i off r.cells)
        | false => none
      | _, _ => none
    | _, _ => none
  | .call c, some d => match c.callee, c.args.toList, c.argTypes.toList with
    | .builtin .append, [x, y], [T, T'] => match Nat.beq T T', st.look [] x, st.look [] y with
      | true, some s, some t => st.append τ d T s t
      | _, _, _ => none
    | _, _, _ => none
  | _, _ => none

def isEff : Op → Bool
  | .box _ _ => true
  | .alloc _ => true
  | .store _ _ _ => true
  | .call c => match c.callee with
    | .builtin .append => true
    | _ => false
  | _ => false

def stepOp (τ : Tab) (sp : Spec) (ops : Array Oper) (st : St) (o : Oper) : Option (List Prop × St) :=
  match isEff o.op with
  | true => match o.guard with
    | none => eff τ st o
    | some _ => none
  | false => match stepV τ sp ops st.bx st.find o, o.dst with
    | some (ps, x), some d => match x with
      | .grd g p y => match st.putG d g p y with
        | some st' => some (ps, st')
        | none => none
      | y => match st.put d y with
        | some st' => some (ps, st')
        | none => none
    | _, _ => none

def conj : List Prop → Prop → Prop
  | [], q => q
  | p :: l, q => p ∧ conj l q
theorem conj_of {q : Prop} : ∀ {l : List Prop}, conj l q → (∀ p ∈ l, p) ∧ q
  | [], h => ⟨fun p hp => (by cases hp), h⟩
  | p :: l, h => by
    obtain ⟨a, b⟩ := conj_of h.2
    refine ⟨fun r hr => ?_, b⟩
    rcases List.mem_cons.1 hr with rfl | hr
    · exact h.1
    · exact a r hr

def vcOps (τ : Tab) (sp : Spec) (ops : Array Oper) : List Oper → St → (St → Prop) → Prop
  | [], st, K => K st
  | o :: l, st, K => match stepOp τ sp ops st o with
    | some (ps, st') => conj ps (vcOps τ sp ops l st' K)
    | none => match stepOp τ sp ops st.freeze o with
      | some (ps, st') => conj ps (vcOps τ sp ops l st' K)
      | none => False

section
variable {P : Program} {τ : Tab} [TabOk P τ] {sp : Spec} {W : World} {N0 F : Nat → Prop} {st : St} {β : Envr} {a : Act} {w : World}

theorem chain_ok {N : Nat → Prop} {find : Nat → Option SV} (hf : ∀ s x, find s = some x → SlotOk β N a w s x) (g : Nat) (p : Bool) (l : List (Nat × Bool)) (ps : List Prop) (h : chain find g p = some (l, ps)) (hg : tv a g = .bool p) :
    (∀ gp ∈ l, tv a gp.1 = .bool gp.2) ∧ (∀ q ∈ ps, q) := by
  unfold chain at h
  split at h
  · rename_i b hb
    simp only [Option.some.injEq, Prod.mk.injEq] at h
    obtain ⟨rfl, rfl⟩ := h
    have hv := (hf g _ hb : SDen β N w _ (tv a g)).val
    rw [hg] at hv
    refine ⟨fun gp hgp => ?_, fun q hq => ?_⟩
    · obtain rfl := List.mem_singleton.1 hgp; exact hg
    · obtain rfl := List.mem_singleton.1 hq; exact (Value.bool.inj hv).symm
  · rename_i h' q b hb
    simp only [Option.some.injEq, Prod.mk.injEq] at h
    obtain ⟨rfl, rfl⟩ := h
    have hs := hf g _ hb
    have hq : tv a h' = .bool q := by
      refine Classical.byContradiction fun hne => ?_
      have := hs.2 hne
      rw [hg] at this
      cases this
    have hv := (hs.1 hq).val
    rw [hg] at hv
    refine ⟨fun gp hgp => ?_, fun r hr => ?_⟩
    · rcases List.mem_cons.1 hgp with rfl | hgp
      · exact hg
      · obtain rfl := List.mem_singleton.1 hgp; exact hq
    · obtain rfl := List.mem_singleton.1 hr; exact (Value.bool.inj hv).symm
  · cases h

/-- A guard's slot and its value. -/
theorem wanted_iff {ops : Array Oper} {o : Oper} {j s : Nat} {p : Bool} (hg : o.guard = some (j, p)) (hd : dstOf ops j = some s) : Region.wanted o (yielded ops a.tmps) = true ↔ tv a s = .bool p := by
  unfold Region.wanted yielded
  unfold dstOf at hd
  simp only [hg, hd, Option.bind_some]
  unfold tv
  rw [Array.getD_eq_getD_getElem?]
  cases ht : a.tmps[s]? with
  | none => simp [undef]
  | some v =>
    simp only [Option.getD_some]
    cases v <;> simp

/-- What an operation that leaves the boxes alone does, guarded or not. -/
def StepGives (P : Program) (β : Envr) (N : Nat → Prop) (w : World) (ops : Array Oper) (o : Oper) (a : Act) (d : Nat) (x : SV) : Prop :=
  ∀ (K : Act → World → Prop) (Q : Exit → Act → World → Prop), (∀ v w', SlotOk β N (a.put (some d) v) w' d x → Below w.heap.size w w' → K (a.put (some d) v) w') →
    if Region.wanted o (yielded ops a.tmps) then o.wp P a w K Q else K (a.put o.dst undef) w

theorem stepV_ok (hsp : SpecOk P sp) {N : Nat → Prop} (hN : ∀ b, N b → b < w.heap.size) {bx : List (Nat × TypeId × List RV)} (hbx : BoxOk β N w bx) {find : Nat → Option SV} (hf : ∀ s x, find s = some x → SlotOk β N a w s x)
    {ops : Array Oper} {o : Oper} {ps : List Prop} {x : SV} (h : stepV τ sp ops bx find o = some (ps, x)) (hp : ∀ p ∈ ps, p) {d : Nat} (hd : o.dst = some d) (hlt : d < a.tmps.size)
    (hself : ∀ j p s, o.guard = some (j, p) → dstOf ops j = some s → s ≠ d) : StepGives P β N w ops o a d x := by
  unfold stepV at h
  split at h
  · rename_i G hs g hgd
    split at h
    · rename_i ps' y hev
      split at h
      case h_2 => cases h
      simp only [Option.some.injEq, Prod.mk.injEq] at h
      obtain ⟨rfl, rfl⟩ := h
      unfold guardOf at hgd
      split at hgd
      · rename_i hog
        simp only [Option.some.injEq, Prod.mk.injEq] at hgd
        obtain ⟨rfl, rfl, rfl⟩ := hgd
        intro K Q hK
        rw [if_pos (by simp [Region.wanted, hog])]
        have hp' : ∀ p ∈ ps', p := fun p hpm => by
          have := hp (imps [] p) (List.mem_map.2 ⟨p, hpm, rfl⟩)
          exact this
        refine evOp_ok (β := β) (N := N) hsp hN hbx (o := o) (a := a) (fun G' z s hG hz => lookF_ok (G := G' ++ []) hf (by simpa using hG) hz) hev hp' K Q fun v w' hv hbl => ?_
        rw [hd]
        refine hK v w' ?_ hbl
        refine SlotOk.of_den ?_
        rw [tv_put_same hlt]
        exact hv
      · rename_i j p hog
        split at hgd
        · rename_i s hds
          split at hgd
          · rename_i l qs hch
            simp only [Option.some.injEq, Prod.mk.injEq] at hgd
            obtain ⟨rfl, rfl, rfl⟩ := hgd
            intro K Q hK
            have hsd : s ≠ d := hself j p s hog hds
            by_cases hw : tv a s = .bool p
            · rw [if_pos ((wanted_iff hog hds).2 hw)]
              obtain ⟨c1, c2⟩ := chain_ok hf s p l qs hch hw
              have hp' : ∀ p ∈ ps', p := fun p hpm => imps_of (hp (imps qs p) (List.mem_map.2 ⟨p, hpm, rfl⟩)) c2
              refine evOp_ok (β := β) (N := N) hsp hN hbx (o := o) (a := a) (fun G' z s hG hz => lookF_ok (G := G' ++ l) hf (fun gp hgp => ?_) hz) hev hp' K Q fun v w' hv hbl => ?_
              · rcases List.mem_append.1 hgp with hgp | hgp
                · exact hG gp hgp
                · exact c1 gp hgp
              · rw [hd]
                refine hK v w' ⟨fun _ => by rw [tv_put_same hlt]; exact hv, fun hne => ?_⟩ hbl
                rw [tv_put_other hsd] at hne
                exact absurd hw hne
            · rw [if_neg (fun hc => hw ((wanted_iff hog hds).1 hc)), hd]
              refine hK undef w ⟨fun he => ?_, fun _ => by rw [tv_put_same hlt]⟩ (Below.refl _ _)
              rw [tv_put_other hsd] at he
              exact absurd he hw
          · cases hgd
        · cases hgd
    · split at h
      case h_2 => cases h
      rename_i gp
      obtain ⟨sg, pg⟩ := gp
      simp only [Option.some.injEq, Prod.mk.injEq] at h
      obtain ⟨rfl, rfl⟩ := h
      unfold guardOf at hgd
      split at hgd
      · simp only [Option.some.injEq, Prod.mk.injEq, reduceCtorEq, and_false] at hgd
      · rename_i j p hog
        split at hgd
        · rename_i s hds
          split at hgd
          · rename_i l qs hch
            simp only [Option.some.injEq, Prod.mk.injEq] at hgd
            obtain ⟨rfl, rfl, rfl, rfl⟩ := hgd
            intro K Q hK
            have hsd : s ≠ d := hself j p s hog hds
            by_cases hw : tv a s = .bool p
            · obtain ⟨c1, c2⟩ := chain_ok hf s p l qs hch hw
              exact (imps_of (hp (imps qs False) (List.mem_singleton.2 rfl)) c2).elim
            · rw [if_neg (fun hc => hw ((wanted_iff hog hds).1 hc)), hd]
              refine hK undef w ⟨fun he => ?_, fun _ => by rw [tv_put_same hlt]⟩ (Below.refl _ _)
              rw [tv_put_other hsd] at he
              exact absurd he hw
          · cases hgd
        · cases hgd
  · cases h

/-- A guarded entry comes of the operation's own guard. -/
theorem stepV_grd {bx : List (Nat × TypeId × List RV)} {find : Nat → Option SV} {ops : Array Oper} {o : Oper} {ps : List Prop} {g : Nat} {p : Bool} {y : SV} (h : stepV τ sp ops bx find o = some (ps, .grd g p y)) :
    ∃ m, o.guard = some (m, p) ∧ dstOf ops m = some g := by
  unfold stepV at h
  split at h
  · rename_i G hs gg hgd
    split at h
    · rename_i ps' x hev
      split at h
      case h_2 => cases h
      rename_i hx
      simp only [Option.some.injEq, Prod.mk.injEq] at h
      obtain ⟨rfl, h2⟩ := h
      unfold guardOf at hgd
      split at hgd
      · simp only [Option.some.injEq, Prod.mk.injEq] at hgd
        obtain ⟨_, _, rfl⟩ := hgd
        simp only [wrapG] at h2
        rw [h2] at hx; cases hx
      · rename_i j p' hog
        split at hgd
        · rename_i s hds
          split at hgd
          · simp only [Option.some.injEq, Prod.mk.injEq] at hgd
            obtain ⟨_, _, rfl⟩ := hgd
            simp only [wrapG, SV.grd.injEq] at h2
            obtain ⟨rfl, rfl, _⟩ := h2
            exact ⟨j, hog, hds⟩
          · cases hgd
        · cases hgd
    · split at h
      case h_2 => cases h
      simp only [Option.some.injEq, Prod.mk.injEq] at h
      obtain ⟨_, h2⟩ := h
      unfold guardOf at hgd
      split at hgd
      · simp only [Option.some.injEq, Prod.mk.injEq, reduceCtorEq, and_false] at hgd
      · rename_i j p' hog
        split at hgd
        · rename_i s hds
          split at hgd
          · simp only [Option.some.injEq, Prod.mk.injEq] at hgd
            obtain ⟨_, _, rfl⟩ := hgd
            simp only [wrapG, SV.grd.injEq] at h2
            obtain ⟨rfl, rfl, _⟩ := h2
            exact ⟨j, hog, hds⟩
          · cases hgd
        · cases hgd
  · cases h

/-- The step of the list of a plain region. -/
def StepTo (P : Program) (W : World) (N0 F : Nat → Prop) (ops : Array Oper) (o : Oper) (st' : St) (a : Act) (w : World) : Prop :=
  ∀ (K : Act → World → Prop) (Q : Exit → Act → World → Prop), (∀ a' w' β', Rel W N0 F st' β' a' w' → K a' w') → if Region.wanted o (yielded ops a.tmps) then o.wp P a w K Q else K (a.put o.dst undef) w

theorem noPs_eq {x : Option St} {ps : List Prop} {st' : St} (h : noPs x = some (ps, st')) : x = some st' := by
  unfold noPs at h
  split at h
  · simp only [Option.some.injEq, Prod.mk.injEq] at h; rw [h.2]
  · cases h

theorem eff_ok (h : Rel W N0 F st β a w) {ops : Array Oper} {o : Oper} {ps : List Prop} {st' : St} (hg : o.guard = none) (he : eff τ st o = some (ps, st')) (hp : ∀ p ∈ ps, p) : StepTo P W N0 F ops o st' a w := by
  intro K Q hK
  rw [if_pos (by simp [Region.wanted, hg])]
  have hl : ∀ x s, st.look [] x = some s → SDen β (NB N0 β st.bx st.ow) w s (a.eval x) := fun x s hx => St.look_ok h (fun gp hgp => by cases hgp) hx
  unfold eff at he
  split at he
  · rename_i T v d ho hd
    split at he
    · rename_i r hr
      split at he
      · rename_i hone
        have hden := hl _ _ hr
        cases hden with
        | d hden =>
          have hc := Cells.of_den hden hone
          have hrel := h.newBox (noPs_eq he) hc
          unfold Oper.wp
          have hrun : (execOp a.eval o).run P w = .ok (.value (.pointer (some ⟨w.heap.size, 0, none⟩))) (w.alloc (.cells (a.eval v).cells T)) := by
            simp [execOp, ho, Instr.box, newVar, newRow]
          rw [hrun]
          have := hK _ _ _ hrel
          show K (a.put o.dst _) _
          rw [hd]
          simpa using this
      · cases he
    · cases he
  · rename_i T d ho hd
    split at he
    · rename_i r hr
      split at he
      · rename_i hone
        obtain ⟨zv, hz, hden⟩ := zeroOf_ok (P := P) (N := NB N0 β st.bx st.ow) (w := w) hr w
        have hc := Cells.of_den hden hone
        have hrel := h.newBox (noPs_eq he) hc
        unfold Oper.wp
        have hrun : (execOp a.eval o).run P w = .ok (.value (.pointer (some ⟨w.heap.size, 0, none⟩))) (w.alloc (.cells zv.cells T)) := by
          simp [execOp, ho, Instr.alloc, hz, newVar, newRow]
        rw [hrun]
        have := hK _ _ _ hrel
        show K (a.put o.dst _) _
        rw [hd]
        simpa using this
      · cases he
    · cases he
  · rename_i T x v ho hd
    split at he
    · rename_i i off r hx hv
      split at he
      · rename_i s hs hone
        split at he
        · rename_i hsz
          have hsz := Nat.eq_of_beq_eq_true hsz
          have hden := hl _ _ hv
          have hloc := hl _ _ hx
          cases hden with
          | d hden =>
            have hc := Cells.of_den hden hone
            obtain ⟨w', hrun, hrel⟩ := h.store (noPs_eq he) hc P
            have hev : a.eval x = .pointer (some ⟨β.b i, off, none⟩) := by
              generalize a.eval x = u at hloc
              cases hloc; rfl
            unfold Oper.wp
            have hlen : (a.eval v).cells.size = s := by have := hc.1; simp at this; omega
            have hrun' : (execOp a.eval o).run P w = .ok .skip w' := by
              simp [execOp, ho, hev, Instr.storeAt, Instr.sureAddr, storeVar, run_size hs, hlen, hrun]
            rw [hrun']
            have := hK _ _ _ hrel
            show K (a.put o.dst undef) w'
            rw [hd]
            exact this
        · cases he
      · cases he
    · cases he
  · rename_i c d ho hd
    split at he
    · rename_i x y T T' hcal hargs hty
      split at he
      · rename_i s t hT hx hy
        obtain rfl := Nat.eq_of_beq_eq_true hT
        obtain ⟨r, w', β', hrun, hrel⟩ := h.append (P := P) he hp (hl _ _ hx) (hl _ _ hy) o.type
        have e1 : c.args = #[x, y] := Array.toList_inj.1 hargs
        have e2 : c.argTypes = #[T, T] := Array.toList_inj.1 hty
        unfold Oper.wp
        have hrun' : (execOp a.eval o).run P w = .ok (.value r) w' := by
          simp [execOp, ho, resolve, hcal, e1, e2, invoke, builtin, hrun]
        rw [hrun']
        have := hK _ _ _ hrel
        show K (a.put o.dst r) w'
        rw [hd]
        exact this
      · cases he
    · cases he
  · cases he

theorem put_lt {d : Nat} {x : SV} {st st' : St} (h : st.put d x = some st') : d < st.n := by
  unfold St.put at h
  split at h
  · rename_i hc
    simp only [Bool.and_eq_true] at hc
    exact Nat.le_of_ble_eq_true hc.1.1
  · cases h
theorem putG_lt {d g : Nat} {p : Bool} {x : SV} {st st' : St} (h : st.putG d g p x = some st') : d < st.n ∧ d ≠ g := by
  unfold St.putG at h
  split at h
  · rename_i hc
    simp only [Bool.and_eq_true] at hc
    exact ⟨Nat.le_of_ble_eq_true hc.1.1.1, fun e => by rw [e] at hc; simp at hc⟩
  · cases h

/-- A plain entry comes of an operation without a guard. -/
theorem stepV_plain {bx : List (Nat × TypeId × List RV)} {find : Nat → Option SV} {ops : Array Oper} {o : Oper} {ps : List Prop} {x : SV} (h : stepV τ sp ops bx find o = some (ps, x)) (hx : isG x = false) : o.guard = none := by
  unfold stepV at h
  split at h
  · rename_i G hs gg hgd
    split at h
    · rename_i ps' y hev
      split at h
      case h_2 => cases h
      simp only [Option.some.injEq, Prod.mk.injEq] at h
      obtain ⟨rfl, rfl⟩ := h
      unfold guardOf at hgd
      split at hgd
      · assumption
      · split at hgd
        · split at hgd
          · simp only [Option.some.injEq, Prod.mk.injEq] at hgd
            obtain ⟨_, _, rfl⟩ := hgd
            cases hx
          · cases hgd
        · cases hgd
    · split at h
      case h_2 => cases h
      simp only [Option.some.injEq, Prod.mk.injEq] at h
      obtain ⟨_, h2⟩ := h
      rw [← h2] at hx
      cases hx
  · cases h

theorem stepOp_ok (hsp : SpecOk P sp) (h : Rel W N0 F st β a w) {ops : Array Oper} {o : Oper} {ps : List Prop} {st' : St} (hs : stepOp τ sp ops st o = some (ps, st')) (hp : ∀ p ∈ ps, p) : StepTo P W N0 F ops o st' a w := by
  unfold stepOp at hs
  split at hs
  · split at hs
    · rename_i hg
      exact eff_ok h hg hs hp
    · cases hs
  · split at hs
    · rename_i ps' x d hv hd
      split at hs
      · rename_i g p y
        split at hs
        · rename_i st'' hput
          simp only [Option.some.injEq, Prod.mk.injEq] at hs
          obtain ⟨rfl, rfl⟩ := hs
          have hlt := putG_lt hput
          intro K Q hK
          refine stepV_ok hsp h.NB_lt h.boxes h.find_ok hv hp hd (by rw [h.size]; exact hlt.1) (fun j p' s hg hds => ?_) K Q fun v w' hv' hbl => hK _ _ _ ((h.below hbl).putG hput hv')
          obtain ⟨m, hm, hms⟩ := stepV_grd hv
          rw [hg] at hm
          obtain ⟨rfl, rfl⟩ := Prod.mk.inj (Option.some.inj hm)
          rw [hds] at hms
          obtain rfl := Option.some.inj hms
          exact Ne.symm hlt.2
        · cases hs
      · rename_i hno
        split at hs
        · rename_i st'' hput
          simp only [Option.some.injEq, Prod.mk.injEq] at hs
          obtain ⟨rfl, rfl⟩ := hs
          have hlt := put_lt hput
          have hx : isG x = false := by
            cases x with
            | grd g p y => exact absurd rfl (hno g p y)
            | _ => rfl
          intro K Q hK
          refine stepV_ok hsp h.NB_lt h.boxes h.find_ok hv hp hd (by rw [h.size]; exact hlt) (fun j p s hg _ => by rw [stepV_plain hv hx] at hg; cases hg) K Q fun v w' hv' hbl => ?_
          have hden := hv'.den hx
          rw [tv_put_same (by rw [h.size]; exact hlt)] at hden
          exact hK _ _ _ ((h.below hbl).put hput hden)
        · cases hs
    · cases hs

theorem vcOps_ok (hsp : SpecOk P sp) {ops : Array Oper} {Q : Exit → Act → World → Prop} : ∀ (l : List Oper) (st : St) (K : St → Prop) (β : Envr) (a : Act) (w : World), vcOps τ sp ops l st K → Rel W N0 F st β a w →
    (∀ st' β' a' w', Rel W N0 F st' β' a' w' → K st' → Q .normal a' w') → wpList P ops Q l a w
  | [], st, K, β, a, w, h, hr, hQ => hQ st β a w hr h
  | o :: l, st, K, β, a, w, h, hr, hQ => by
    simp only [vcOps] at h
    split at h
    · rename_i ps st' hs
      obtain ⟨hp, hrest⟩ := conj_of h
      refine wpList_step fun K' hK' => ?_
      exact stepOp_ok hsp hr hs hp K' Q fun a' w' β' hr' => hK' a' w' (vcOps_ok hsp l st' K β' a' w' hrest hr' hQ)
    · split at h
      · rename_i ps st' hs
        obtain ⟨hp, hrest⟩ := conj_of h
        refine wpList_step fun K' hK' => ?_
        exact stepOp_ok hsp hr.freeze hs hp K' Q fun a' w' β' hr' => hK' a' w' (vcOps_ok hsp l st' K β' a' w' hrest hr' hQ)
      · exact h.elim

end
end Go.Sim
