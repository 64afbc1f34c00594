/- Slice literals. Conditions: none. -/
import Derived.Test.YtekifbnnkcgipaaDoorSimF
namespace Go.Sim
open Go.RowKit (Below)

theorem fill_rows (s : Nat) : ∀ (qs : List (Nat × Value)) (k : Nat) (cur : List Value), (∀ (j : Nat) q, qs[j]? = some q → q.1 = k + j ∧ q.2.cells.size = s) → cur.length = (k + qs.length) * s →
    Instr.fill (fun i => some (i * s, s)) cur.toArray qs = some (cur.take (k * s) ++ qs.flatMap (fun q => q.2.cells.toList)).toArray
  | [], k, cur, _, hl => by
    have : cur.take (k * s) = cur := List.take_of_length_le (by simp at hl; omega)
    simp [Instr.fill, this]
  | (i, v) :: qs, k, cur, h, hl => by
    obtain ⟨h0, hs⟩ := h 0 _ rfl
    simp only [Nat.add_zero] at h0 hs
    have h0 := h0.symm
    subst h0
    have hl' : cur.length = k * s + s + qs.length * s := by rw [hl]; simp [Nat.add_mul]; omega
    have hfold := lay_foldl v.cells.toList 0 (k * s) cur.toArray (by simp [hs]; omega)
    have e : v.cells.zipIdx.foldl (fun cs (c, j) => cs.setIfInBounds (k * s + j) c) cur.toArray = (v.cells.toList.zipIdx 0).foldl (fun (cs : Array Value) (cj : Value × Nat) => cs.setIfInBounds (k * s + cj.2) cj.1) cur.toArray := by
      rw [← Array.foldl_toList]
      simp
    simp only [Instr.fill]
    rw [if_neg (by simp [hs]; omega), e, hfold]
    have hcl : v.cells.toList.length = s := by simpa using hs
    rw [fill_rows s qs (k + 1) _ (fun j q hq => by have := h (j + 1) q (by simpa using hq); exact ⟨by omega, this.2⟩) (by simp [hcl, Nat.add_mul]; omega)]
    congr 2
    simp only [Nat.add_zero, List.flatMap_cons]
    rw [← List.append_assoc]
    congr 1
    have e1 : (k + 1) * s = k * s + s := by simp [Nat.add_mul]
    rw [e1, List.take_append_of_le_length (by simp [hcl]; omega), List.take_of_length_le (by simp [hcl]; omega)]

theorem flat_get {α β : Type} (g : α → List β) (s : Nat) : ∀ (l : List α) (k j : Nat), (∀ x ∈ l, (g x).length = s) → j < s → (l.flatMap g)[k * s + j]? = (l[k]?).bind fun x => (g x)[j]?
  | [], k, j, _, _ => by simp
  | x :: l, k, j, h, hj => by
    have hx := h x (by simp)
    simp only [List.flatMap_cons]
    cases k with
    | zero => simp [List.getElem?_append, hx, hj]
    | succ k =>
      rw [List.getElem?_append_right (by rw [hx, Nat.add_mul]; omega)]
      have : (k + 1) * s + j - (g x).length = k * s + j := by rw [hx, Nat.add_mul]; omega
      rw [this, flat_get g s l k j (fun y hy => h y (by simp [hy])) hj]
      simp

section
variable {P : Program} {τ : Tab} [TabOk P τ] {β : Envr} {N : Nat → Prop} {w : World}

theorem inOrder_ok (s : Nat) : ∀ (ps : List (Nat × RV)) (k : Nat), inOrder s k ps = true → ∀ (j : Nat) p, ps[j]? = some p → p.1 = k + j ∧ p.2.cells.length = s ∧ fitsR p.2 = true
  | [], k, _, j, p, h => by simp at h
  | (i, x) :: ps, k, h, j, p, hp => by
    simp only [inOrder, Bool.and_eq_true] at h
    obtain ⟨⟨⟨h1, h2⟩, h3⟩, h4⟩ := h
    cases j with
    | zero => simp at hp; subst hp; exact ⟨Nat.eq_of_beq_eq_true h1, Nat.eq_of_beq_eq_true h2, h3⟩
    | succ j =>
      have := inOrder_ok s ps (k + 1) h4 j p (by simpa using hp)
      exact ⟨by omega, this.2⟩

theorem evBuildSlice_ok {lk : Operand → Option SV} {o : Oper} {a : Act} (hlk : ∀ x s, lk x = some s → SDen β N w s (a.eval x)) (hN : ∀ b, N b → b < w.heap.size) {T : TypeId} {len : Nat} {parts : Array (Nat × Operand)} {ps : List Prop} {x : SV}
    (ho : o.op = .buildSlice T len parts) (h : evBuildSlice τ lk T len parts.toList = some (ps, x)) : OpGives P β N w o a x := by
  unfold evBuildSlice at h
  split at h
  · rename_i e hT
    split at h
    · rename_i s qs z hs hq hz
      split at h
      · rename_i hcond
        simp only [rv, Option.some.injEq, Prod.mk.injEq] at h
        obtain ⟨rfl, rfl⟩ := h
        simp only [Bool.and_eq_true] at hcond
        obtain ⟨⟨⟨c1, c2⟩, c3⟩, c4⟩ := hcond
        have c1 := Nat.eq_of_beq_eq_true c1
        have c3 := Nat.le_of_ble_eq_true c3
        have c4 := Nat.le_of_ble_eq_true c4
        have hio := inOrder_ok s qs 0 c2
        obtain ⟨hl, hd⟩ := lookParts_ok hlk _ _ hq
        obtain ⟨zv, hzr, _⟩ := zeroOf_ok (P := P) (N := N) (w := w) hz w
        -- the values
        obtain ⟨vs, hvs⟩ : ∃ vs : List (Nat × Value), vs = parts.toList.map fun (i, x) => (i, a.eval x) := ⟨_, rfl⟩
        rw [← hvs] at hd
        have hvl : vs.length = len := by rw [hvs]; simp; simp at hl; omega
        have hsz : ∀ (j : Nat) q, vs[j]? = some q → q.1 = 0 + j ∧ q.2.cells.size = s := fun j q hj => by
          have hlt : j < qs.length := by have := (List.getElem?_eq_some_iff.1 hj).1; omega
          have hp : qs[j]? = some (qs[j]) := List.getElem?_eq_getElem hlt
          obtain ⟨e1, e2⟩ := hd j _ q hp hj
          obtain ⟨f1, f2, f3⟩ := hio j _ hp
          exact ⟨by omega, by have := (Cells.of_den e2 (fitsR_or f3).1).1; simpa [f2] using this⟩
        let cur : List Value := (List.range (len * s)).map fun i => zv.cells[i % zv.cells.size]!
        have hfill := fill_rows s vs 0 cur hsz (by simp [cur, hvl])
        simp only [Nat.zero_mul, List.take_zero, List.nil_append] at hfill
        have hne : ¬ (len * s = 0) := by omega
        have hrun : (execOp a.eval o).run P w = .ok (.value (.slice (some ⟨w.heap.size, 0, none⟩) len len)) (w.alloc (.cells (vs.flatMap (fun q => q.2.cells.toList)).toArray e)) := by
          have hpv : (parts.map fun (i, x) => (i, a.eval x)).toList = vs := by rw [hvs]; simp
          have hcur : ((Array.range (len * s)).map fun x => zv.cells[x % zv.cells.size]!) = cur.toArray := by
            apply Array.ext'
            simp [cur]
          simp only [execOp, ho, Instr.buildSlice, Sem.run_bind, run_ty hT, Result.andThen_ok, run_size hs]
          rw [Sem.run_ite, if_neg (by omega)]
          rw [Sem.run_ite, if_neg hne]
          simp only [Sem.run_bind, hzr, Result.andThen_ok, Sem.run_pure, hcur, hpv, hfill]
          simp [newRow]
        intro K Q hK
        unfold Oper.wp
        rw [hrun]
        have hsame : Same N w (w.alloc (.cells (vs.flatMap (fun q => q.2.cells.toList)).toArray e)) := .of_below ((Below.refl _ _).alloc (Nat.le_refl _) _)
        refine hK _ _ (.d (.row s len _ w.heap.size 0 len (fun k j => ((vs.getD k (0, undef)).2.cells.toList.getD j undef)) (Nat.le_refl _) (by simp) (fun hb => Nat.lt_irrefl _ (hN _ hb)) ?_ ?_ ?_ ?_)) ((Below.refl _ _).alloc (Nat.le_refl _) _)
        · intro k hk
          have hp : qs[k]? = some (qs[k]'(by omega)) := List.getElem?_eq_getElem _
          obtain ⟨f1, f2, f3⟩ := hio k _ hp
          simpa [List.getD, hp] using f2
        · intro k j hk hj
          have hv : vs[k]? = some (vs[k]'(by omega)) := List.getElem?_eq_getElem _
          obtain ⟨_, hsz'⟩ := hsz k _ hv
          rw [Nat.zero_add, World.cell?_alloc_new]
          have hall : ∀ q ∈ vs, ((fun q : Nat × Value => q.2.cells.toList) q).length = s := fun q hq => by
            obtain ⟨i, hi⟩ := List.mem_iff_getElem?.1 hq
            simpa using (hsz i q hi).2
          have := flat_get (fun q : Nat × Value => q.2.cells.toList) s vs k j hall hj
          rw [List.getElem?_toArray, this, hv]
          have hjl : j < (vs[k]'(by omega)).2.cells.toList.length := by simpa [hsz'] using hj
          simp only [Option.bind_some, List.getD, hv, Option.getD_some, List.getElem?_eq_getElem hjl]
        · intro k j hk hj
          have hp : qs[k]? = some (qs[k]'(by omega)) := List.getElem?_eq_getElem _
          have hv : vs[k]? = some (vs[k]'(by omega)) := List.getElem?_eq_getElem _
          obtain ⟨e1, e2⟩ := hd k _ _ hp hv
          obtain ⟨f1, f2, f3⟩ := hio k _ hp
          have hc := Cells.of_den e2 (fitsR_or f3).1
          have hjl : j < (vs[k]'(by omega)).2.cells.toList.length := by rw [hc.1, f2]; exact hj
          simp only [List.getD, hv, Option.getD_some, List.getElem?_eq_getElem hjl]
          exact hc.oneCell (fitsR_or f3).2 _ (List.getElem_mem _)
        · intro k j y hk hy
          have hp : qs[k]? = some (qs[k]'(by omega)) := List.getElem?_eq_getElem _
          have hv : vs[k]? = some (vs[k]'(by omega)) := List.getElem?_eq_getElem _
          obtain ⟨e1, e2⟩ := hd k _ _ hp hv
          obtain ⟨f1, f2, f3⟩ := hio k _ hp
          have hc := Cells.of_den e2 (fitsR_or f3).1
          have hy' : (qs[k]'(by omega)).2.cells[j]? = some y := by simpa [List.getD, hp] using hy
          have hjl : j < (vs[k]'(by omega)).2.cells.toList.length := by rw [hc.1]; exact (List.getElem?_eq_some_iff.1 hy').1
          have := hc.2 j y _ hy' (List.getElem?_eq_getElem hjl)
          simp only [List.getD, hv, Option.getD_some, List.getElem?_eq_getElem hjl]
          exact this.same hsame
      · cases h
    · cases h
  · cases h

end
end Go.Sim
