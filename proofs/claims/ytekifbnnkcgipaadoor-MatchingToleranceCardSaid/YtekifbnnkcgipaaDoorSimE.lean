/- The rest of the operations that the interpreter answers. Conditions: none. Literals, calls, and the interpreter's answer to an operation as a whole. Conditions: none. Slice literals. Conditions: none. Calls, choices, and the interpreter's answer to an operation as a whole. Conditions: none. States of the interpreter: slots, boxes, and what they stand for. Conditions: none. Boxes are made and written; guards; one operation of a plain region. Conditions: none. -/
import Derived.Test.YtekifbnnkcgipaaDoorSimA
import Derived.Laws.AppendOwn
import Derived.Laws.CopyRow
namespace Go.Sim
open Go.RowKit (Below)

section
variable {P : Program} {τ : Tab} [TabOk P τ] {β : Envr} {N : Nat → Prop} {w : World}

theorem byteAt_eq (s : ByteArray) (i : Nat) (h : i < s.size) : ∃ b, s[i]? = some b ∧ ((b.toNat : Nat) : Int) = byteAt s i := by
  refine ⟨s[i], by simp [h], ?_⟩
  unfold byteAt
  have hi : i < s.data.size := h
  have : s.data.getD i 0 = s.data[i] := by unfold Array.getD; rw [dif_pos hi]; rfl
  rw [this]
  rfl

theorem evIndex_ok {T : TypeId} {p q : SV} {ps : List Prop} {x : SV} (h : evIndex τ T p q = some (ps, x)) (hp : ∀ p ∈ ps, p) {u v : Value} (hu : SDen β N w p u) (hv : SDen β N w q v) :
    Gives P β N w (Instr.index T u v) x := by
  unfold evIndex at h
  split at h
  · rename_i s k n
    obtain rfl := hu.val; obtain rfl := hv.val
    split at h
    · rename_i ht
      simp only [Option.some.injEq, Prod.mk.injEq] at h
      obtain ⟨rfl, rfl⟩ := h
      have hb : 0 ≤ n ∧ n < (s.size : Int) := hp _ (List.mem_singleton.2 rfl)
      obtain ⟨b, h1, h2⟩ := byteAt_eq s n.toNat (by omega)
      refine .val ?_
      simp [Instr.index, asIntOf, run_ty ht, hb.1, h1, h2]
    · cases h
  · rename_i l k n
    obtain rfl := hv.val
    split at h
    · rename_i len e ht
      split at h
      · rename_i s hs
        split at h
        · rename_i r hr
          simp only [Option.some.injEq, Prod.mk.injEq] at h
          obtain ⟨rfl, rfl⟩ := h
          have hb : 0 ≤ n ∧ n < (len : Int) := hp _ (List.mem_singleton.2 rfl)
          cases hu with
          | d hu => cases hu with
            | agg _ vs hl hd =>
              obtain ⟨v, hv, hr⟩ := partR_ok (P := P) hr hl hd w
              exact .mk (v := v) (by simp [Instr.index, asIntOf, run_ty ht, run_size hs, hb, hv]) (.d hr)
        · cases h
      · cases h
    · cases h
  · cases h

theorem evIndexAddr_ok {T : TypeId} {p q : SV} {ps : List Prop} {x : SV} (h : evIndexAddr τ T p q = some (ps, x)) (hp : ∀ p ∈ ps, p) {u v : Value} (hu : SDen β N w p u) (hv : SDen β N w q v) :
    Gives P β N w (Instr.indexAt T u v) x := by
  unfold evIndexAddr at h
  split at h
  · rename_i sz n f k i
    obtain rfl := hv.val
    split at h
    · rename_i e ht
      split at h
      · rename_i s hs
        split at h
        · rename_i hsz'
          obtain rfl := Nat.eq_of_beq_eq_true hsz'
          simp only [Option.some.injEq, Prod.mk.injEq] at h
          obtain ⟨rfl, rfl⟩ := h
          have hb : 0 ≤ i ∧ i < (n : Int) := hp _ (List.mem_singleton.2 rfl)
          cases hu with
          | d hu => cases hu with
            | nil => simp at hb; omega
            | row _ _ _ b o cap c hcap hb' hN hsz hc ho hd =>
              refine .mk (v := .pointer (some ⟨b, o + (i.toNat * s + 0), none⟩)) ?_ (.elem s n f i.toNat 0 b o c (by omega) hb' hN hsz hc ho hd)
              simp [Instr.indexAt, asIntOf, run_ty ht, run_size hs, hb, add_at]
        · cases h
      · cases h
    · cases h
  · rename_i j o k i
    obtain rfl := hv.val
    split at h
    · rename_i len e ht
      split at h
      · rename_i s hs
        simp only [Option.some.injEq, Prod.mk.injEq] at h
        obtain ⟨rfl, rfl⟩ := h
        have hb : 0 ≤ i ∧ i < (len : Int) := hp _ (List.mem_singleton.2 rfl)
        cases hu
        refine .mk (v := .pointer (some ⟨β.b j, o + i.toNat * s, none⟩)) ?_ (.loc _ _)
        simp [Instr.indexAt, asIntOf, run_ty ht, run_size hs, hb, add_at, Instr.sureAddr]
      · cases h
    · cases h
  · cases h

/-- A bound as the model reads it. -/
theorem bound_ok {x : Value} {k : IntKind} {n : Int} {y : Nat} {code : BoundsCode} (hx : x = .int k n) (h : 0 ≤ n ∧ n ≤ (y : Int)) (w : World) : (Instr.sliceBound x y code).run P w = .ok n.toNat w := by
  subst hx
  simp [Instr.sliceBound, asIntOf, h]

theorem bnd_ok {x : Option SV} {d : Int} {l : List Int} {n : Int} (h : bnd x d = some (l, n)) {v : Option Value} (hv : ∀ s, x = some s → ∃ u, v = some u ∧ SDen β N w s u) (hn : x = none → v = none) :
    (x = none ∧ v = none ∧ l = [] ∧ n = d) ∨ (∃ k, v = some (.int k n) ∧ l = [n]) := by
  unfold bnd at h
  split at h
  · simp only [Option.some.injEq, Prod.mk.injEq] at h
    exact .inl ⟨rfl, hn rfl, h.1.symm, h.2.symm⟩
  · simp only [Option.some.injEq, Prod.mk.injEq] at h
    obtain ⟨u, rfl, hu⟩ := hv _ rfl
    obtain rfl := hu.val
    exact .inr ⟨_, by rw [h.2], by rw [← h.1, h.2]⟩
  · cases h

/-- Both bounds. -/
theorem bounds_ok {isS : Bool} {len cap : Nat} {lo hi : Option Value} {ls hs : List Int} {l h : Int} (hcap : len ≤ cap)
    (hhi : (hi = none ∧ hs = [] ∧ h = len) ∨ (∃ k, hi = some (.int k h) ∧ hs = [h])) (hlo : (lo = none ∧ ls = [] ∧ l = 0) ∨ (∃ k, lo = some (.int k l) ∧ ls = [l]))
    (h1 : ∀ x ∈ hs, 0 ≤ x ∧ x ≤ (len : Int)) (h2 : ∀ x ∈ ls, 0 ≤ x ∧ x ≤ h) (w : World) :
    0 ≤ h ∧ h ≤ len ∧ 0 ≤ l ∧ l ≤ h ∧ (Instr.sliceBounds isS len cap lo hi none).run P w = .ok (l.toNat, h.toNat, cap) w := by
  have a : 0 ≤ h ∧ h ≤ (len : Int) := by
    rcases hhi with ⟨_, _, rfl⟩ | ⟨k, _, rfl⟩
    · omega
    · exact h1 _ (List.mem_singleton.2 rfl)
  have b : 0 ≤ l ∧ l ≤ h := by
    rcases hlo with ⟨_, _, rfl⟩ | ⟨k, _, rfl⟩
    · omega
    · exact h2 _ (List.mem_singleton.2 rfl)
  refine ⟨a.1, a.2, b.1, b.2, ?_⟩
  have hH : ∀ c, (match hi with | some v => Instr.sliceBound v cap c | none => (pure len : Sem Nat)).run P w = .ok h.toNat w := fun c => by
    rcases hhi with ⟨rfl, _, rfl⟩ | ⟨k, rfl, _⟩
    · simp
    · exact bound_ok rfl ⟨a.1, by omega⟩ w
  have hL : ∀ c, (match lo with | some v => Instr.sliceBound v h.toNat c | none => (pure 0 : Sem Nat)).run P w = .ok l.toNat w := fun c => by
    rcases hlo with ⟨rfl, _, rfl⟩ | ⟨k, rfl, _⟩
    · simp
    · exact bound_ok rfl ⟨b.1, by omega⟩ w
  unfold Instr.sliceBounds
  rcases hhi with ⟨rfl, _, rfl⟩ | ⟨k, rfl, _⟩ <;> rcases hlo with ⟨rfl, _, rfl⟩ | ⟨k', rfl, _⟩ <;> simp_all

theorem evSlice_ok {T : TypeId} {p : SV} {lo hi : Option SV} {ps : List Prop} {x : SV} (h : evSlice τ T p lo hi = some (ps, x)) (hp : ∀ p ∈ ps, p) {u : Value} {vl vh : Option Value} (hu : SDen β N w p u)
    (hl : ∀ s, lo = some s → ∃ u, vl = some u ∧ SDen β N w s u) (hln : lo = none → vl = none) (hh : ∀ s, hi = some s → ∃ u, vh = some u ∧ SDen β N w s u) (hhn : hi = none → vh = none) :
    Gives P β N w (Instr.sliceAt T u vl vh none) x := by
  unfold evSlice at h
  split at h
  · rename_i s
    obtain rfl := hu.val
    split at h
    · rename_i hs h' ls l' ht hbh hbl
      simp only [Option.some.injEq, Prod.mk.injEq] at h
      obtain ⟨rfl, rfl⟩ := h
      have bh := bnd_ok (β := β) (N := N) (w := w) hbh hh hhn
      have bl := bnd_ok (β := β) (N := N) (w := w) hbl hl hln
      obtain ⟨a1, a2, a3, a4, hr⟩ := bounds_ok (P := P) (isS := false) (len := s.size) (cap := s.size) (lo := vl) (hi := vh) (Nat.le_refl _) (by rcases bh with ⟨_, a, b, c⟩ | h; exact .inl ⟨a, b, c⟩; exact .inr h)
        (by rcases bl with ⟨_, a, b, c⟩ | h; exact .inl ⟨a, b, c⟩; exact .inr h)
        (fun x hx => hp (0 ≤ x ∧ x ≤ (s.size : Int)) (List.mem_append.2 (.inl (List.mem_map.2 ⟨x, hx, rfl⟩)))) (fun x hx => hp (0 ≤ x ∧ x ≤ h') (List.mem_append.2 (.inr (List.mem_map.2 ⟨x, hx, rfl⟩)))) w
      refine .val ?_
      simp [Instr.sliceAt, Instr.slice, run_ty ht, hr]
    · cases h
  · rename_i sz n f
    split at h
    · rename_i e hs h' ls l' ht hbh hbl
      split at h
      · rename_i s hsz
        split at h
        · rename_i hb
          obtain rfl := Nat.eq_of_beq_eq_true hb
          simp only [Option.some.injEq, Prod.mk.injEq] at h
          obtain ⟨rfl, rfl⟩ := h
          have bh := bnd_ok (β := β) (N := N) (w := w) hbh hh hhn
          have bl := bnd_ok (β := β) (N := N) (w := w) hbl hl hln
          have fin : ∀ cap, n ≤ cap → _ := fun cap hc => bounds_ok (P := P) (isS := true) (len := n) (cap := cap) (lo := vl) (hi := vh) hc (by rcases bh with ⟨_, a, b, c⟩ | h; exact .inl ⟨a, b, c⟩; exact .inr h)
            (by rcases bl with ⟨_, a, b, c⟩ | h; exact .inl ⟨a, b, c⟩; exact .inr h)
            (fun x hx => hp (0 ≤ x ∧ x ≤ (n : Int)) (List.mem_append.2 (.inl (List.mem_map.2 ⟨x, hx, rfl⟩)))) (fun x hx => hp (0 ≤ x ∧ x ≤ h') (List.mem_append.2 (.inr (List.mem_map.2 ⟨x, hx, rfl⟩)))) w
          cases hu with
          | d hu => cases hu with
            | nil =>
              obtain ⟨a1, a2, a3, a4, hr⟩ := fin 0 (Nat.le_refl _)
              have e1 : h'.toNat = 0 := by omega
              have e2 : l'.toNat = 0 := by omega
              refine .mk (v := .slice none 0 0) ?_ ?_
              · simp [Instr.sliceAt, Instr.slice, run_ty ht, run_size hsz, hr, e1, e2]
              · rw [e1, e2]; exact .d (.nil _ _)
            | row _ _ _ b o cap c hcap hb' hN hsz' hc ho hd =>
              obtain ⟨a1, a2, a3, a4, hr⟩ := fin cap hcap
              by_cases hm : cap = l'.toNat
              · subst hm
                have e0 : h'.toNat - l'.toNat = 0 := by omega
                refine .mk (v := .slice (some ⟨b, o, none⟩) (h'.toNat - l'.toNat) (l'.toNat - l'.toNat)) ?_ ?_
                · simp [Instr.sliceAt, Instr.slice, run_ty ht, run_size hsz, hr]
                · rw [e0]
                  exact .d (.row s 0 _ b o _ c (Nat.zero_le _) hb' hN (fun k hk => absurd hk (Nat.not_lt_zero k)) (fun k j hk => absurd hk (Nat.not_lt_zero k)) (fun k j hk => absurd hk (Nat.not_lt_zero k)) (fun k j x hk => absurd hk (Nat.not_lt_zero k)))
              · refine .mk (v := .slice (some ⟨b, o + l'.toNat * s, none⟩) (h'.toNat - l'.toNat) (cap - l'.toNat)) ?_ ?_
                · simp [Instr.sliceAt, Instr.slice, run_ty ht, run_size hsz, hr, hm, add_at]
                · refine .d (.row s _ _ b _ _ (fun k j => c (l'.toNat + k) j) (by omega) hb' hN (fun k hk => hsz' _ (by omega)) (fun k j hk hj => ?_) (fun k j hk hj => ho _ _ (by omega) hj) (fun k j x hk hx => hd _ _ _ (by omega) hx))
                  have := hc (l'.toNat + k) j (by omega) hj
                  rw [Nat.add_mul] at this
                  rw [← this]
                  congr 2
                  omega
        · cases h
      · cases h
    · cases h
  · cases h

theorem evLen_ok {T : TypeId} {p : SV} {ps : List Prop} {x : SV} (h : evLen τ T p = some (ps, x)) {u : Value} (hu : SDen β N w p u) (t : TypeId) : Gives P β N w (Builtin.len_ #[T] t #[u]) x := by
  unfold evLen at h
  split at h
  · split at h
    · rename_i ht
      simp only [rv, Option.some.injEq, Prod.mk.injEq] at h
      obtain ⟨rfl, rfl⟩ := h
      cases hu with
      | d hu => cases hu with
        | none => exact .val (by simp [Builtin.len_, run_ty ht, goInt])
    · cases h
  · obtain rfl := hu.val
    split at h
    · rename_i ht
      simp only [rv, Option.some.injEq, Prod.mk.injEq] at h
      obtain ⟨rfl, rfl⟩ := h
      exact .val (by simp [Builtin.len_, run_ty ht, goInt])
    · cases h
  · split at h
    · rename_i ht
      simp only [rv, Option.some.injEq, Prod.mk.injEq] at h
      obtain ⟨rfl, rfl⟩ := h
      cases hu with
      | d hu => cases hu with
        | nil => exact .val (by simp [Builtin.len_, run_ty ht, goInt])
        | row => exact .val (by simp [Builtin.len_, run_ty ht, goInt])
    · cases h
  · cases h

end
end Go.Sim

namespace Go.Sim
open Go.RowKit (Below)

section
variable {P : Program} {τ : Tab} [TabOk P τ] {β : Envr} {N : Nat → Prop} {w : World}

theorem evNilCheck_ok {p : SV} {ps : List Prop} {x : SV} (h : evNilCheck p = some (ps, x)) {u : Value} (hu : SDen β N w p u) :
    (∃ a, u = .pointer (some a)) ∧ SDen β N w x u ∨ (∃ g a b, u = .func (.func g) a b) ∧ SDen β N w x u := by
  unfold evNilCheck at h
  split at h
  · simp only [Option.some.injEq, Prod.mk.injEq] at h; obtain ⟨rfl, rfl⟩ := h
    cases hu; exact .inl ⟨⟨_, rfl⟩, .loc _ _⟩
  · simp only [Option.some.injEq, Prod.mk.injEq] at h; obtain ⟨rfl, rfl⟩ := h
    cases hu with
    | elem _ _ _ _ _ b o' c hi hb hN hsz hc ho hd => exact .inl ⟨⟨_, rfl⟩, .elem _ _ _ _ _ b o' c hi hb hN hsz hc ho hd⟩
  · simp only [rv, Option.some.injEq, Prod.mk.injEq] at h; obtain ⟨rfl, rfl⟩ := h
    obtain rfl := hu.val
    exact .inr ⟨⟨_, _, _, rfl⟩, hu⟩
  · simp only [rv, Option.some.injEq, Prod.mk.injEq] at h; obtain ⟨rfl, rfl⟩ := h
    cases hu with
    | d hu => cases hu with
      | clo _ _ vs hl hd => exact .inr ⟨⟨_, _, _, rfl⟩, .d (.clo _ _ vs hl hd)⟩
  · simp only [rv, Option.some.injEq, Prod.mk.injEq] at h; obtain ⟨rfl, rfl⟩ := h
    cases hu with
    | d hu => cases hu with
      | ref _ b c hb hN hc ho hd => exact .inl ⟨⟨_, rfl⟩, .d (.ref _ b c hb hN hc ho hd)⟩
  · cases h

theorem lookAll_ok {lk : Operand → Option SV} {e : Operand → Value} (hlk : ∀ x s, lk x = some s → SDen β N w s (e x)) : ∀ (xs : List Operand) (rs : List RV), lookAll lk xs = some rs → Cells N w rs (xs.map e)
  | [], rs, h => by simp [lookAll] at h; subst h; exact ⟨rfl, fun j x v hx => by simp at hx⟩
  | x :: xs, rs, h => by
    simp only [lookAll] at h
    split at h
    · rename_i r rs' h1 h2
      simp only [Option.some.injEq] at h; subst h
      have h0 := hlk _ _ h1
      obtain ⟨hl, hd⟩ := lookAll_ok hlk xs rs' h2
      refine ⟨by simpa using hl, fun j y v hy hv => ?_⟩
      cases j with
      | zero =>
        simp at hy hv; subst hy; subst hv
        cases h0 with
        | d h => exact normR_ok h
      | succ j => simp at hy hv; exact hd j y v hy (by simpa using hv)
    · cases h

theorem lookParts_ok {lk : Operand → Option SV} {e : Operand → Value} (hlk : ∀ x s, lk x = some s → SDen β N w s (e x)) : ∀ (xs : List (Nat × Operand)) (rs : List (Nat × RV)), lookParts lk xs = some rs →
    rs.length = xs.length ∧ ∀ (j : Nat) p q, rs[j]? = some p → (xs.map fun (i, x) => (i, e x))[j]? = some q → q.1 = p.1 ∧ RDen N w p.2 q.2
  | [], rs, h => by simp [lookParts] at h; subst h; exact ⟨rfl, fun j x v hx => by simp at hx⟩
  | (i, x) :: xs, rs, h => by
    simp only [lookParts] at h
    split at h
    · rename_i r rs' h1 h2
      simp only [Option.some.injEq] at h; subst h
      have h0 := hlk _ _ h1
      obtain ⟨hl, hd⟩ := lookParts_ok hlk xs rs' h2
      refine ⟨by simpa using hl, fun j y v hy hv => ?_⟩
      cases j with
      | zero =>
        simp at hy hv; subst hy; subst hv
        cases h0 with
        | d h => exact ⟨rfl, normR_ok h⟩
      | succ j => simp at hy hv; exact hd j y v hy (by simpa using hv)
    · cases h

theorem placesL_ok : ∀ (fs : List Field) (l : List (Nat × Nat)), placesL τ fs = some l → fs.mapM (fun f => (P.info? f.type).map fun i => (f.offset, i.size)) = some l
  | [], l, h => by simp [placesL] at h; subst h; simp
  | f :: fs, l, h => by
    simp only [placesL] at h
    split at h
    · rename_i s l' h1 h2
      simp only [Option.some.injEq] at h; subst h
      have h1 := TabOk.sz (P := P) f.type s h1
      cases hi : P.info? f.type with
      | none => simp [hi] at h1
      | some i =>
        simp [hi] at h1
        simp [List.mapM_cons, hi, placesL_ok fs l' h2, h1]
    · cases h

theorem evBuild_ok {lk : Operand → Option SV} {a : Act} (hlk : ∀ x s, lk x = some s → SDen β N w s (a.eval x)) {T : TypeId} {parts : Array (Nat × Operand)} {ps : List Prop} {x : SV} (h : evBuild τ lk T parts.toList = some (ps, x)) :
    Gives P β N w (Instr.build T (parts.map fun (i, x) => (i, a.eval x))) x := by
  unfold evBuild at h
  split at h
  · rename_i z pl qs hz hpl hps
    split at h
    · rename_i cs hcs
      simp only [rv, Option.some.injEq, Prod.mk.injEq] at h
      obtain ⟨rfl, rfl⟩ := h
      obtain ⟨hl, hd⟩ := lookParts_ok hlk _ _ hps
      obtain ⟨it, zv, hi, hzz, rfl⟩ := TabOk.zr (P := P) T z hz
      have hone : (oneR (ofVal zv) || isAggR (ofVal zv)) = true ∨ ¬ (oneR (ofVal zv) || isAggR (ofVal zv)) = true := Classical.em _
      have hzc : Cells N w (ofVal zv).cells zv.cells.toList := by
        have hd := ofVal_ok (N := N) (w := w) zv
        unfold ofVal at hd ⊢
        cases zv <;> first
          | exact Cells.of_den hd (by rfl)
          | (rename_i a l c; cases a <;> first | exact Cells.of_den hd (by rfl) | (cases l <;> cases c <;> exact Cells.of_den hd (by rfl)))
          | (refine ⟨rfl, fun j x u hx hu => ?_⟩
             cases j with
             | zero => simp [ofCell, RV.cells, Value.cells] at hx hu; subst hx; subst hu; exact .val _
             | succ j => simp [ofCell, RV.cells] at hx)
      unfold places at hpl
      split at hpl
      · rename_i fs hT
        split at hpl
        · rename_i l hL
          simp only [Option.some.injEq] at hpl; subst hpl
          obtain ⟨us, hus, hcu⟩ := fill_ok (N := N) (w := w) (fun i => l[i]?) (fun i => l.toArray[i]?) qs ((parts.map fun (i, x) => (i, a.eval x)).toList) _ _ _ hcs hzc (by simp at hl ⊢; omega)
            (fun j p q hp hq => hd j p q hp (by simpa using hq)) (fun i o s h => by simpa using h)
          have hT' : P.underlying T = some (.struct fs) := TabOk.ty T _ hT
          refine .mk (v := .agg us.toArray) (run_build w T _ _ ?_) (.d hcu.agg)
          simp only [Program.built, hi, hT', hzz, placesL_ok _ _ hL]
          simpa using hus
        · cases hpl
      · rename_i n e hT
        split at hpl
        · rename_i s hs
          simp only [Option.some.injEq] at hpl; subst hpl
          obtain ⟨us, hus, hcu⟩ := fill_ok (N := N) (w := w) (fun i => some (i * s, s)) (fun i => some (i * s, s)) qs ((parts.map fun (i, x) => (i, a.eval x)).toList) _ _ _ hcs hzc (by simp at hl ⊢; omega)
            (fun j p q hp hq => hd j p q hp (by simpa using hq)) (fun i o s h => h)
          have hT' : P.underlying T = some (.array n e) := TabOk.ty T _ hT
          have hs := TabOk.sz (P := P) e s hs
          cases hie : P.info? e with
          | none => simp [hie] at hs
          | some ie =>
            simp [hie] at hs; subst hs
            refine .mk (v := .agg us.toArray) (run_build w T _ _ ?_) (.d hcu.agg)
            simp only [Program.built, hi, hT', hzz, hie]
            simpa using hus
        · cases hpl
      · cases hpl
    · cases h
  · cases h

end
end Go.Sim

namespace Go.Sim
open Go.RowKit (Below)

theorem fill_rows (s : Nat) : ∀ (qs : List (Nat × Value)) (k : Nat) (cur : List Value), (∀ (j : Nat) q, qs[j]? = some q → q.1 = k + j ∧ q.2.cells.size = s) → cur.length = (k + qs.length) * s →
    Instr.fill (fun i => some (i * s, s)) cur.toArray qs = some (cur.take (k * s) ++ qs.flatMap (fun q => q.2.cells.toList)).toArray
  | [], k, cur, _, hl => by
    have : cur.take (k * s) = cur := List.take_of_length_le (by simp at hl; omega)
    simp [Instr.fill, this]
  | (i, v) :: qs, k, cur, h, hl => by
    obtain ⟨h0, hs⟩ := h 0 _ rfl
    simp only [Nat.add_zero] at h0 hs
    have h0 := h0.symm
    subst h0
    have hl' : cur.length = k * s + s + qs.length * s := by rw [hl]; simp [Nat.add_mul]; omega
    have hfold := lay_foldl v.cells.toList 0 (k * s) cur.toArray (by simp [hs]; omega)
    have e : v.cells.zipIdx.foldl (fun cs (c, j) => cs.setIfInBounds (k * s + j) c) cur.toArray = (v.cells.toList.zipIdx 0).foldl (fun (cs : Array Value) (cj : Value × Nat) => cs.setIfInBounds (k * s + cj.2) cj.1) cur.toArray := by
      rw [← Array.foldl_toList]
      simp
    simp only [Instr.fill]
    rw [if_neg (by simp [hs]; omega), e, hfold]
    have hcl : v.cells.toList.length = s := by simpa using hs
    rw [fill_rows s qs (k + 1) _ (fun j q hq => by have := h (j + 1) q (by simpa using hq); exact ⟨by omega, this.2⟩) (by simp [hcl, Nat.add_mul]; omega)]
    congr 2
    simp only [Nat.add_zero, List.flatMap_cons]
    rw [← List.append_assoc]
    congr 1
    have e1 : (k + 1) * s = k * s + s := by simp [Nat.add_mul]
    rw [e1, List.take_append_of_le_length (by simp [hcl]; omega), List.take_of_length_le (by simp [hcl]; omega)]

theorem flat_get {α β : Type} (g : α → List β) (s : Nat) : ∀ (l : List α) (k j : Nat), (∀ x ∈ l, (g x).length = s) → j < s → (l.flatMap g)[k * s + j]? = (l[k]?).bind fun x => (g x)[j]?
  | [], k, j, _, _ => by simp
  | x :: l, k, j, h, hj => by
    have hx := h x (by simp)
    simp only [List.flatMap_cons]
    cases k with
    | zero => simp [List.getElem?_append, hx, hj]
    | succ k =>
      rw [List.getElem?_append_right (by rw [hx, Nat.add_mul]; omega)]
      have : (k + 1) * s + j - (g x).length = k * s + j := by rw [hx, Nat.add_mul]; omega
      rw [this, flat_get g s l k j (fun y hy => h y (by simp [hy])) hj]
      simp

section
variable {P : Program} {τ : Tab} [TabOk P τ] {β : Envr} {N : Nat → Prop} {w : World}

theorem inOrder_ok (s : Nat) : ∀ (ps : List (Nat × RV)) (k : Nat), inOrder s k ps = true → ∀ (j : Nat) p, ps[j]? = some p → p.1 = k + j ∧ p.2.cells.length = s ∧ fitsR p.2 = true
  | [], k, _, j, p, h => by simp at h
  | (i, x) :: ps, k, h, j, p, hp => by
    simp only [inOrder, Bool.and_eq_true] at h
    obtain ⟨⟨⟨h1, h2⟩, h3⟩, h4⟩ := h
    cases j with
    | zero => simp at hp; subst hp; exact ⟨Nat.eq_of_beq_eq_true h1, Nat.eq_of_beq_eq_true h2, h3⟩
    | succ j =>
      have := inOrder_ok s ps (k + 1) h4 j p (by simpa using hp)
      exact ⟨by omega, this.2⟩

theorem evBuildSlice_ok {lk : Operand → Option SV} {o : Oper} {a : Act} (hlk : ∀ x s, lk x = some s → SDen β N w s (a.eval x)) (hN : ∀ b, N b → b < w.heap.size) {T : TypeId} {len : Nat} {parts : Array (Nat × Operand)} {ps : List Prop} {x : SV}
    (ho : o.op = .buildSlice T len parts) (h : evBuildSlice τ lk T len parts.toList = some (ps, x)) : OpGives P β N w o a x := by
  unfold evBuildSlice at h
  split at h
  · rename_i e hT
    split at h
    · rename_i s qs z hs hq hz
      split at h
      · rename_i hcond
        simp only [rv, Option.some.injEq, Prod.mk.injEq] at h
        obtain ⟨rfl, rfl⟩ := h
        simp only [Bool.and_eq_true] at hcond
        obtain ⟨⟨⟨c1, c2⟩, c3⟩, c4⟩ := hcond
        have c1 := Nat.eq_of_beq_eq_true c1
        have c3 := Nat.le_of_ble_eq_true c3
        have c4 := Nat.le_of_ble_eq_true c4
        have hio := inOrder_ok s qs 0 c2
        obtain ⟨hl, hd⟩ := lookParts_ok hlk _ _ hq
        obtain ⟨zv, hzr, _⟩ := zeroOf_ok (P := P) (N := N) (w := w) hz w
        -- the values
        obtain ⟨vs, hvs⟩ : ∃ vs : List (Nat × Value), vs = parts.toList.map fun (i, x) => (i, a.eval x) := ⟨_, rfl⟩
        rw [← hvs] at hd
        have hvl : vs.length = len := by rw [hvs]; simp; simp at hl; omega
        have hsz : ∀ (j : Nat) q, vs[j]? = some q → q.1 = 0 + j ∧ q.2.cells.size = s := fun j q hj => by
          have hlt : j < qs.length := by have := (List.getElem?_eq_some_iff.1 hj).1; omega
          have hp : qs[j]? = some (qs[j]) := List.getElem?_eq_getElem hlt
          obtain ⟨e1, e2⟩ := hd j _ q hp hj
          obtain ⟨f1, f2, f3⟩ := hio j _ hp
          exact ⟨by omega, by have := (Cells.of_den e2 (fitsR_or f3).1).1; simpa [f2] using this⟩
        let cur : List Value := (List.range (len * s)).map fun i => zv.cells[i % zv.cells.size]!
        have hfill := fill_rows s vs 0 cur hsz (by simp [cur, hvl])
        simp only [Nat.zero_mul, List.take_zero, List.nil_append] at hfill
        have hne : ¬ (len * s = 0) := by omega
        have hrun : (execOp a.eval o).run P w = .ok (.value (.slice (some ⟨w.heap.size, 0, none⟩) len len)) (w.alloc (.cells (vs.flatMap (fun q => q.2.cells.toList)).toArray e)) := by
          have hpv : (parts.map fun (i, x) => (i, a.eval x)).toList = vs := by rw [hvs]; simp
          have hcur : ((Array.range (len * s)).map fun x => zv.cells[x % zv.cells.size]!) = cur.toArray := by
            apply Array.ext'
            simp [cur]
          simp only [execOp, ho, Instr.buildSlice, Sem.run_bind, run_ty hT, Result.andThen_ok, run_size hs]
          rw [Sem.run_ite, if_neg (by omega)]
          rw [Sem.run_ite, if_neg hne]
          simp only [Sem.run_bind, hzr, Result.andThen_ok, Sem.run_pure, hcur, hpv, hfill]
          simp [newRow]
        intro K Q hK
        unfold Oper.wp
        rw [hrun]
        have hsame : Same N w (w.alloc (.cells (vs.flatMap (fun q => q.2.cells.toList)).toArray e)) := .of_below ((Below.refl _ _).alloc (Nat.le_refl _) _)
        refine hK _ _ (.d (.row s len _ w.heap.size 0 len (fun k j => ((vs.getD k (0, undef)).2.cells.toList.getD j undef)) (Nat.le_refl _) (by simp) (fun hb => Nat.lt_irrefl _ (hN _ hb)) ?_ ?_ ?_ ?_)) ((Below.refl _ _).alloc (Nat.le_refl _) _)
        · intro k hk
          have hp : qs[k]? = some (qs[k]'(by omega)) := List.getElem?_eq_getElem _
          obtain ⟨f1, f2, f3⟩ := hio k _ hp
          simpa [List.getD, hp] using f2
        · intro k j hk hj
          have hv : vs[k]? = some (vs[k]'(by omega)) := List.getElem?_eq_getElem _
          obtain ⟨_, hsz'⟩ := hsz k _ hv
          rw [Nat.zero_add, World.cell?_alloc_new]
          have hall : ∀ q ∈ vs, ((fun q : Nat × Value => q.2.cells.toList) q).length = s := fun q hq => by
            obtain ⟨i, hi⟩ := List.mem_iff_getElem?.1 hq
            simpa using (hsz i q hi).2
          have := flat_get (fun q : Nat × Value => q.2.cells.toList) s vs k j hall hj
          rw [List.getElem?_toArray, this, hv]
          have hjl : j < (vs[k]'(by omega)).2.cells.toList.length := by simpa [hsz'] using hj
          simp only [Option.bind_some, List.getD, hv, Option.getD_some, List.getElem?_eq_getElem hjl]
        · intro k j hk hj
          have hp : qs[k]? = some (qs[k]'(by omega)) := List.getElem?_eq_getElem _
          have hv : vs[k]? = some (vs[k]'(by omega)) := List.getElem?_eq_getElem _
          obtain ⟨e1, e2⟩ := hd k _ _ hp hv
          obtain ⟨f1, f2, f3⟩ := hio k _ hp
          have hc := Cells.of_den e2 (fitsR_or f3).1
          have hjl : j < (vs[k]'(by omega)).2.cells.toList.length := by rw [hc.1, f2]; exact hj
          simp only [List.getD, hv, Option.getD_some, List.getElem?_eq_getElem hjl]
          exact hc.oneCell (fitsR_or f3).2 _ (List.getElem_mem _)
        · intro k j y hk hy
          have hp : qs[k]? = some (qs[k]'(by omega)) := List.getElem?_eq_getElem _
          have hv : vs[k]? = some (vs[k]'(by omega)) := List.getElem?_eq_getElem _
          obtain ⟨e1, e2⟩ := hd k _ _ hp hv
          obtain ⟨f1, f2, f3⟩ := hio k _ hp
          have hc := Cells.of_den e2 (fitsR_or f3).1
          have hy' : (qs[k]'(by omega)).2.cells[j]? = some y := by simpa [List.getD, hp] using hy
          have hjl : j < (vs[k]'(by omega)).2.cells.toList.length := by rw [hc.1]; exact (List.getElem?_eq_some_iff.1 hy').1
          have := hc.2 j y _ hy' (List.getElem?_eq_getElem hjl)
          simp only [List.getD, hv, Option.getD_some, List.getElem?_eq_getElem hjl]
          exact this.same hsame
      · cases h
    · cases h
  · cases h

end
end Go.Sim

namespace Go.Sim
open Go.RowKit (Below)

section
variable {P : Program} {τ : Tab} [TabOk P τ] {β : Envr} {N : Nat → Prop} {w : World}

theorem mux_ok {c : Bool} {a b : Operand} {p q : SV} {ps : List Prop} {x : SV} (h : mux c a b p q = some (ps, x)) {u v : Value} (hu : c = true → SDen β N w p u) (hv : c = false → SDen β N w q v)
    (ha : ∀ z, a = .const z → u = z) (hb : ∀ z, b = .const z → v = z) : ps = [] ∧ SDen β N w x (bif c then u else v) := by
  unfold mux at h
  split at h
  · rename_i s t
    split at h
    all_goals
      simp only [rv, Option.some.injEq, Prod.mk.injEq] at h
      obtain ⟨rfl, rfl⟩ := h
      refine ⟨rfl, ?_⟩
    · have hz := hb _ rfl
      cases c
      · subst hz; exact .d (.val _)
      · obtain rfl := (hu rfl).val; exact .d (.val _)
    · have hz := ha _ rfl
      cases c
      · obtain rfl := (hv rfl).val; exact .d (.val _)
      · subst hz; exact .d (.val _)
    · cases c
      · obtain rfl := (hv rfl).val; exact .d (.val _)
      · obtain rfl := (hu rfl).val; exact .d (.val _)
  · split at h
    · rename_i hk
      simp only [rv, Option.some.injEq, Prod.mk.injEq] at h
      obtain ⟨rfl, rfl⟩ := h
      have hk := of_decide_eq_true hk
      subst hk
      refine ⟨rfl, ?_⟩
      cases c
      · obtain rfl := (hv rfl).val; exact .d (.val _)
      · obtain rfl := (hu rfl).val; exact .d (.val _)
    · cases h
  · cases h

theorem evMinMax_ok {isMax : Bool} {p q : SV} {ps : List Prop} {x : SV} (h : evMinMax isMax p q = some (ps, x)) {u v : Value} (hu : SDen β N w p u) (hv : SDen β N w q v) (ts : Array TypeId) (t : TypeId) :
    Gives P β N w (bif isMax then Builtin.max_ ts t #[u, v] else Builtin.min_ ts t #[u, v]) x := by
  unfold evMinMax at h
  split at h
  · obtain rfl := hu.val; obtain rfl := hv.val
    rename_i k a k' b
    simp only [rv, Option.some.injEq, Prod.mk.injEq] at h
    obtain ⟨rfl, rfl⟩ := h
    cases isMax
    · refine .val ?_
      have : (if b < a then b else a) = min a b := by rw [Int.min_def]; split <;> split <;> omega
      simp [Builtin.min_, Builtin.min2, this]
    · refine .val ?_
      have : (if b > a then b else a) = max a b := by rw [Int.max_def]; split <;> split <;> omega
      simp [Builtin.max_, Builtin.max2, this]
  · cases h

/-- A call of a Go function by what its contract says. -/
theorem call_ok {sp : Spec} (hsp : SpecOk P sp) (hN : ∀ b, N b → b < w.heap.size) {o : Oper} {a : Act} {c : Call} {g : FuncId} {f : Operand} {args : List RV} {ps : List Prop} {x : SV} (ho : o.op = .call c) (hc : c.callee = .value f)
    {cs : List RV} {cv : List Value} (hcv : Cells N w cs cv) (hf : a.eval f = .func (.func g) #[] cv.toArray) (hargs : Cells N w args (c.args.toList.map a.eval)) (h : sp g (args ++ cs) = some (ps, x)) (hp : ∀ p ∈ ps, p) : OpGives P β N w o a x := by
  obtain ⟨⟨fn, hfn, hname, hbody⟩, hpure⟩ := hsp g (args ++ cs) ps x h hp
  intro K Q hK
  have hrun : (execOp a.eval o).run P w = .ok (.enter g (c.args.toList.map a.eval ++ cv).toArray) w := by
    have e : (c.args.map a.eval) ++ cv.toArray = (c.args.toList.map a.eval ++ cv).toArray := by apply Array.ext'; simp
    have hb : ¬ fn.body = none := fun h => by rw [h] at hbody; cases hbody
    have hn : ¬ fn.name = "runtime.NumGoroutine" := fun h => by rw [h] at hname; simp at hname
    have hd : (resolve a.eval c o.type).run P w = .ok { target := .fn (.func g) cv.toArray, args := #[] ++ c.args.map a.eval } w := by
      simp [resolve, hc, hf, Deferred.ofValue]
    simp only [execOp, ho, Sem.run_bind, hd, Result.andThen_ok, invoke, callFunc]
    rw [Array.empty_append, e]
    simp [hfn, hn, hb]
  unfold Oper.wp
  rw [hrun]
  show Calls P g _ w _
  refine (hpure N w _ hN (hargs.append hcv)).mono fun e w' ⟨v, he, hx, hbl⟩ => ?_
  subst he
  exact hK v w' (hx β) hbl

theorem evCallee_ok {lk : Operand → Option SV} {a : Act} (hlk : ∀ x s, lk x = some s → SDen β N w s (a.eval x)) {f : Operand} {g : FuncId} {cs : List RV} (h : evCallee lk f = some (g, cs)) :
    ∃ cv : List Value, a.eval f = .func (.func g) #[] cv.toArray ∧ Cells N w cs cv := by
  unfold evCallee at h
  split at h
  · rename_i hl
    simp only [Option.some.injEq, Prod.mk.injEq] at h; obtain ⟨rfl, rfl⟩ := h
    exact ⟨[], (hlk _ _ hl).val, rfl, fun j x v hx => by simp at hx⟩
  · rename_i hl
    simp only [Option.some.injEq, Prod.mk.injEq] at h; obtain ⟨rfl, rfl⟩ := h
    have h0 := hlk _ _ hl
    generalize a.eval f = u at h0
    cases h0 with
    | d h0 => cases h0 with
      | clo g l vs hl hd => exact ⟨vs, rfl, hl, hd⟩
  · cases h
theorem lookCaps_ok {lk : Operand → Option SV} {e : Operand → Value} (hlk : ∀ x s, lk x = some s → SDen β N w s (e x)) : ∀ (xs : List Operand) (rs : List RV), lookCaps lk xs = some rs → Cells N w rs (xs.map e)
  | [], rs, h => by simp [lookCaps] at h; subst h; exact ⟨rfl, fun j x v hx => by simp at hx⟩
  | x :: xs, rs, h => by
    simp only [lookCaps] at h
    split at h
    · rename_i r rs' h1 h2
      simp only [Option.some.injEq] at h; subst h
      have h0 := hlk _ _ h1
      obtain ⟨hl, hd⟩ := lookCaps_ok hlk xs rs' h2
      refine ⟨by simpa using hl, fun j y v hy hv => ?_⟩
      cases j with
      | zero =>
        simp at hy hv; subst hy; subst hv
        cases h0 with
        | d h => exact h
      | succ j => simp at hy hv; exact hd j y v hy (by simpa using hv)
    · cases h

/-- A value that the model's operation gives. -/
theorem OpGives.of_gives {o : Oper} {a : Act} {x : SV} {s : Sem Value} (h : Gives P β N w s x) (he : execOp a.eval o = (do pure (.value (← s)))) : OpGives P β N w o a x := by
  obtain ⟨v, hv, hx⟩ := h
  exact .of_run (by rw [he]; simp [hv]) hx

theorem optLook_ok {lk : Operand → Option SV} {a : Act} (hlk : ∀ x s, lk x = some s → SDen β N w s (a.eval x)) {x : Option Operand} {r : Option SV} (h : optLook lk x = some r) :
    (∀ s, r = some s → ∃ u, x.map a.eval = some u ∧ SDen β N w s u) ∧ (r = none → x.map a.eval = none) := by
  unfold optLook at h
  split at h
  · simp only [Option.some.injEq] at h; subst h
    exact ⟨fun s hs => (by cases hs), fun _ => rfl⟩
  · split at h
    · rename_i x v hv
      simp only [Option.some.injEq] at h; subst h
      exact ⟨fun s hs => (by cases hs; exact ⟨_, rfl, hlk _ _ hv⟩), fun hn => (by cases hn)⟩
    · cases h

theorem bind_some' {α β : Type} {x : Option α} {f : α → Option β} {y : β} (h : x.bind f = some y) : ∃ a, x = some a ∧ f a = some y := by
  cases x with
  | none => cases h
  | some a => exact ⟨a, rfl, h⟩

theorem ev2_ok {lk : Operand → Option SV} {x y : Operand} {f : SV → SV → Res} {r : List Prop × SV} (h : ev2 lk x y f = some r) : ∃ a b, lk x = some a ∧ lk y = some b ∧ f a b = some r := by
  unfold ev2 at h
  split at h
  · rename_i a b h1 h2; exact ⟨a, b, h1, h2, h⟩
  · cases h

set_option maxHeartbeats 1000000 in
theorem evOp_ok {sp : Spec} (hsp : SpecOk P sp) (hN : ∀ b, N b → b < w.heap.size) {bx : List (Nat × TypeId × List SV)} (hbx : BoxOk β N w bx) {lkG : List (Nat × Bool) → Operand → Option SV} {o : Oper} {a : Act}
    (hlk : ∀ G x s, (∀ gp ∈ G, tv a gp.1 = .bool gp.2) → lkG G x = some s → SDen β N w s (a.eval x)) {ps : List Prop} {x : SV} (h : evOp τ sp bx lkG o.op = some (ps, x)) (hp : ∀ p ∈ ps, p) : OpGives P β N w o a x := by
  have hl : ∀ x s, lkG [] x = some s → SDen β N w s (a.eval x) := fun x s hx => hlk [] x s (fun gp hgp => by cases hgp) hx
  unfold evOp at h
  dsimp only at h
  split at h
  · rename_i y ho
    obtain ⟨v, h1, h2⟩ := bind_some' h
    simp only [Option.some.injEq, Prod.mk.injEq] at h2; obtain ⟨rfl, rfl⟩ := h2
    exact .of_run (by simp [execOp, ho]) (hl _ _ h1)
  · rename_i y ho
    obtain ⟨v, h1, h2⟩ := bind_some' h
    simp only [Option.some.injEq, Prod.mk.injEq] at h2; obtain ⟨rfl, rfl⟩ := h2
    exact .of_run (by simp [execOp, ho]) (hl _ _ h1)
  · rename_i s p q ho
    split at h
    · rename_i c u v h1 h2 h3
      have hc : a.eval (.tmp s) = .bool c := (hl _ _ h1).val
      obtain ⟨rfl, hx⟩ := mux_ok (u := a.eval p) (v := a.eval q) h (fun hcc => hlk [(s, true)] _ _ (fun gp hgp => by obtain rfl := List.mem_singleton.1 hgp; rw [← hcc]; exact hc) h2)
        (fun hcc => hlk [(s, false)] _ _ (fun gp hgp => by obtain rfl := List.mem_singleton.1 hgp; rw [← hcc]; exact hc) h3) (fun z hz => by rw [hz]; rfl) (fun z hz => by rw [hz]; rfl)
      refine .of_run ?_ hx
      simp only [execOp, ho, hc, asBool]
      cases c <;> rfl
    · cases h
  · rename_i op T y z u ho
    obtain ⟨p, q, h1, h2, h3⟩ := ev2_ok h
    exact .of_gives (evBin_ok h3 hp (hl _ _ h1) (hl _ _ h2) y z) (by simp [execOp, ho])
  · rename_i op T y ho
    obtain ⟨v, h1, h2⟩ := bind_some' h
    exact .of_gives (evUn_ok h2 (hl _ _ h1)) (by simp [execOp, ho])
  · rename_i s t y ho
    obtain ⟨v, h1, h2⟩ := bind_some' h
    exact .of_gives (evConv_ok h2 (hl _ _ h1)) (by simp [execOp, ho])
  · rename_i y i ho
    obtain ⟨v, h1, h2⟩ := bind_some' h
    exact .of_gives (evExtract_ok h2 (hl _ _ h1)) (by simp [execOp, ho])
  · rename_i T y i ho
    obtain ⟨v, h1, h2⟩ := bind_some' h
    exact .of_gives (evFieldAddr_ok h2 (hl _ _ h1)) (by simp [execOp, ho])
  · rename_i T y i ho
    obtain ⟨v, h1, h2⟩ := bind_some' h
    exact .of_gives (evField_ok h2 (hl _ _ h1)) (by simp [execOp, ho])
  · rename_i T y ho
    obtain ⟨v, h1, h2⟩ := bind_some' h
    exact .of_gives (evLoad_ok hbx h2 (hl _ _ h1)) (by simp [execOp, ho])
  · rename_i T y i ho
    obtain ⟨p, q, h1, h2, h3⟩ := ev2_ok h
    exact .of_gives (evIndex_ok h3 hp (hl _ _ h1) (hl _ _ h2)) (by simp [execOp, ho])
  · rename_i T y i ho
    obtain ⟨p, q, h1, h2, h3⟩ := ev2_ok h
    exact .of_gives (evIndexAddr_ok h3 hp (hl _ _ h1) (hl _ _ h2)) (by simp [execOp, ho])
  · rename_i T y lo hi ho
    split at h
    · rename_i v l r h1 h2 h3
      obtain ⟨a1, a2⟩ := optLook_ok hl h2
      obtain ⟨b1, b2⟩ := optLook_ok hl h3
      exact .of_gives (evSlice_ok h hp (hl _ _ h1) a1 a2 b1 b2) (by simp [execOp, ho])
    · cases h
  · rename_i y ho
    obtain ⟨v, h1, h2⟩ := bind_some' h
    rcases evNilCheck_ok h2 (hl _ _ h1) with ⟨⟨p, hv⟩, hx⟩ | ⟨⟨g, p, q, hv⟩, hx⟩
    · exact .of_run (by simp [execOp, ho, hv]) hx
    · exact .of_run (by simp [execOp, ho, hv]) hx
  · rename_i T parts ho
    exact .of_gives (evBuild_ok hl h) (by simp [execOp, ho])
  · rename_i T len parts ho
    exact evBuildSlice_ok hl hN ho h
  · rename_i c ho
    unfold evCall at h
    split at h
    · rename_i hc
      split at h
      · rename_i y T h1 h2
        obtain ⟨v, h3, h4⟩ := bind_some' h
        obtain ⟨u, hu, hx⟩ := evLen_ok (P := P) h4 (hl _ _ h3) o.type
        have e1 : c.args = #[y] := by apply Array.ext'; simpa using h1
        have e2 : c.argTypes = #[T] := by apply Array.ext'; simpa using h2
        exact .of_run (by simp [execOp, ho, resolve, hc, e1, e2, invoke, builtin, hu]) hx
      · cases h
    · rename_i hc
      split at h
      · rename_i y z h1
        split at h
        · rename_i p q h3 h4
          obtain ⟨u, hu, hx⟩ := evMinMax_ok (P := P) h (hl _ _ h3) (hl _ _ h4) c.argTypes o.type
          have e1 : c.args = #[y, z] := by apply Array.ext'; simpa using h1
          simp only [cond_true] at hu
          exact .of_run (by simp [execOp, ho, resolve, hc, e1, invoke, builtin, hu]) hx
        · cases h
      · cases h
    · rename_i hc
      split at h
      · rename_i y z h1
        split at h
        · rename_i p q h3 h4
          obtain ⟨u, hu, hx⟩ := evMinMax_ok (P := P) h (hl _ _ h3) (hl _ _ h4) c.argTypes o.type
          have e1 : c.args = #[y, z] := by apply Array.ext'; simpa using h1
          simp only [cond_false] at hu
          exact .of_run (by simp [execOp, ho, resolve, hc, e1, invoke, builtin, hu]) hx
        · cases h
      · cases h
    · rename_i f hc
      split at h
      · rename_i g cs args h1 h2
        obtain ⟨cv, hcv1, hcv2⟩ := evCallee_ok hl h1
        exact call_ok hsp hN ho hc hcv2 hcv1 (lookAll_ok hl _ _ h2) h hp
      · cases h
    · cases h
  · rename_i fn first captured ho
    unfold evMakeFunc at h
    split at h
    · rename_i g caps hfirst hcaps
      simp only [rv, Option.some.injEq, Prod.mk.injEq] at h
      obtain ⟨rfl, rfl⟩ := h
      obtain ⟨c1, c2⟩ := lookCaps_ok hl _ _ hcaps
      have e1 : first = #[] := by apply Array.ext'; simpa using hfirst
      have e2 : captured.map a.eval = (captured.toList.map a.eval).toArray := by apply Array.ext'; simp
      refine .of_run (v := .func (.func g) #[] (captured.toList.map a.eval).toArray) ?_ (.d (.clo g _ _ c1 c2))
      simp [execOp, ho, Instr.makeFunc, e1, e2]
    · cases h
  · cases h

end
end Go.Sim

namespace Go.Sim
open Go.RowKit (Below)

/-- The frame's length; entries of slots, the newest first; entries that hold where a guard holds (of the region at hand); boxes; rows that the call owns (a slice that it made by append), and a number that names none of them. -/
structure Own where
  e : TypeId
  sz : Nat
  n : Nat
  f : Nat → RV
structure St where
  n : Nat
  sl : List (Nat × SV)
  gl : List (Nat × Nat × Bool × SV)
  bx : List (Nat × TypeId × List SV)
  ow : List (Nat × Own)
  nx : Nat

def sameB : Bool → Bool → Bool
  | true, true => true
  | false, false => true
  | _, _ => false
theorem sameB_eq {a b : Bool} (h : sameB a b = true) : a = b := by cases a <;> cases b <;> simp_all [sameB]

def hasG : List (Nat × Bool) → Nat → Bool → Bool
  | [], _, _ => false
  | (h, q) :: l, g, p => (Nat.beq h g && sameB q p) || hasG l g p
theorem hasG_mem : ∀ {l : List (Nat × Bool)} {g : Nat} {p : Bool}, hasG l g p = true → (g, p) ∈ l
  | (h, q) :: l, g, p, hh => by
    simp only [hasG, Bool.or_eq_true, Bool.and_eq_true] at hh
    rcases hh with ⟨h1, h2⟩ | h1
    · rw [Nat.eq_of_beq_eq_true h1, sameB_eq h2]; exact List.mem_cons_self
    · exact List.mem_cons_of_mem _ (hasG_mem h1)

/-- What a slot's entry is under guards that hold. -/
def unG (G : List (Nat × Bool)) : Option SV → Option SV
  | some (.grd g p x) => match hasG G g p with
    | true => some x
    | false => none
  | r => r

def lookF (find : Nat → Option SV) (G : List (Nat × Bool)) : Operand → Option SV
  | .tmp t => unG G (find t)
  | .const v => some (.d (ofVal v))
  | .func f => some (.d (.val (.func (.func f) #[] #[])))
  | .global g => some (.d (.val (.pointer (some ⟨g, 0, none⟩))))

def St.find (st : St) (s : Nat) : Option SV :=
  match findB st.gl s with
  | some (g, p, x) => some (.grd g p x)
  | none => findB st.sl s
def St.look (st : St) : List (Nat × Bool) → Operand → Option SV := lookF st.find

def isG : SV → Bool
  | .grd _ _ _ => true
  | _ => false

/-- No entry is guarded by slot d. -/
def noGuard (d : Nat) : List (Nat × Nat × Bool × SV) → Bool
  | [] => true
  | (_, g, _, _) :: l => match Nat.beq g d with
    | true => false
    | false => noGuard d l
theorem noGuard_ok {d : Nat} : ∀ {l : List (Nat × Nat × Bool × SV)} {s g : Nat} {p : Bool} {x : SV}, noGuard d l = true → (s, g, p, x) ∈ l → g ≠ d
  | (k, h, q, y) :: l, s, g, p, x, hh, hm => by
    simp only [noGuard] at hh
    split at hh
    · cases hh
    · rename_i hc
      rcases List.mem_cons.1 hm with hm | hm
      · simp only [Prod.mk.injEq] at hm
        obtain ⟨_, rfl, _, _⟩ := hm
        intro e; rw [e] at hc; simp at hc
      · exact noGuard_ok hh hm

def isNone {α : Type} : Option α → Bool
  | none => true
  | some _ => false
theorem isNone_eq {α : Type} {x : Option α} (h : isNone x = true) : x = none := by cases x <;> simp_all [isNone]

/-- Slot d is written. -/
def St.put (st : St) (d : Nat) (x : SV) : Option St :=
  match Nat.blt d st.n && isNone (findB st.gl d) && noGuard d st.gl with
  | true => some ⟨st.n, (d, x) :: st.sl, st.gl, st.bx, st.ow, st.nx⟩
  | false => none
/-- Slot d is written where slot g holds p. -/
def St.putG (st : St) (d g : Nat) (p : Bool) (x : SV) : Option St :=
  match Nat.blt d st.n && isNone (findB st.sl d) && noGuard d st.gl && !(Nat.beq d g) with
  | true => some ⟨st.n, st.sl, (d, g, p, x) :: st.gl, st.bx, st.ow, st.nx⟩
  | false => none

def St.clean (st : St) : St := ⟨st.n, st.sl, [], st.bx, st.ow, st.nx⟩

theorem findB_mem {α : Type} {t : Nat} {x : α} : ∀ {l : List (Nat × α)}, findB l t = some x → (t, x) ∈ l
  | [], h => by cases h
  | (k, y) :: l, h => by
    simp only [findB] at h
    split at h
    · rename_i hk
      simp only [Option.some.injEq] at h
      rw [Nat.eq_of_beq_eq_true hk, h]; exact List.mem_cons_self
    · exact List.mem_cons_of_mem _ (findB_mem h)

theorem findB_cons {α : Type} {d : Nat} {x : α} {l : List (Nat × α)} (s : Nat) : findB ((d, x) :: l) s = if s = d then some x else findB l s := by
  simp only [findB]
  cases hk : Nat.beq d s with
  | true => rw [if_pos (Nat.eq_of_beq_eq_true hk).symm]
  | false => rw [if_neg (fun e => by rw [e] at hk; simp at hk)]

/-- What stands in slot s. -/
def SlotOk (β : Envr) (N : Nat → Prop) (a : Act) (w : World) (s : Nat) : SV → Prop
  | .grd g p y => (tv a g = .bool p → SDen β N w y (tv a s)) ∧ (tv a g ≠ .bool p → tv a s = undef)
  | x => SDen β N w x (tv a s)

/-- What the call may have written of what was there before it: blocks of F. -/
structure Keeps (F : Nat → Prop) (W w : World) : Prop where
  os : w.os = W.os
  tape : w.tape = W.tape
  output : w.output = W.output
  size : W.heap.size ≤ w.heap.size
  block : ∀ k, k < W.heap.size → ¬ F k → w.heap[k]? = W.heap[k]?

theorem Keeps.refl (F : Nat → Prop) (w : World) : Keeps F w w := ⟨rfl, rfl, rfl, Nat.le_refl _, fun _ _ _ => rfl⟩
theorem Keeps.below {F : Nat → Prop} {W w w' : World} (h : Keeps F W w) (hb : Below w.heap.size w w') : Keeps F W w' :=
  ⟨hb.os.trans h.os, hb.tape.trans h.tape, hb.output.trans h.output, Nat.le_trans h.size hb.size, fun k hk hF => (hb.block k (Nat.lt_of_lt_of_le hk h.size)).trans (h.block k hk hF)⟩
theorem Keeps.to_below {W w : World} (h : Keeps (fun _ => False) W w) : Below W.heap.size W w := ⟨h.os, h.tape, h.output, h.size, fun k hk => h.block k hk (fun f => f)⟩

/-- The blocks that no slice of the state lies in. -/
def NB (N0 : Nat → Prop) (β : Envr) (bx : List (Nat × TypeId × List SV)) (ow : List (Nat × Own)) (b : Nat) : Prop :=
  N0 b ∨ (∃ i, (findB bx i).isSome = true ∧ β.b i = b) ∨ (∃ i, (findB ow i).isSome = true ∧ (β.r i).ownBlock = some b)

/-- The rows that the call owns hold what is said. -/
def OwnsOk (base : Nat) (β : Envr) (N : Nat → Prop) (w : World) (ow : List (Nat × Own)) : Prop :=
  ∀ i o, findB ow i = some o → ∃ xs : List Value, w.ownsRow base o.e o.sz (β.r i) o.n xs ∧ (∀ k, k < o.n → (o.f k).cells.length = o.sz) ∧
    (∀ (k j : Nat) x v, k < o.n → (o.f k).cells[j]? = some x → xs[k * o.sz + j]? = some v → RDen N w x v) ∧ (∀ v ∈ xs, v.oneCell' = true)

theorem ownsRow_turn {w w' : World} {base : Nat} {e : TypeId} {size n : Nat} {v : Value} {xs : List Value} (h : w.ownsRow base e size v n xs) (hb : ∀ b, v.ownBlock = some b → w'.heap[b]? = w.heap[b]?) : w'.ownsRow base e size v n xs := by
  refine ⟨h.1, ?_⟩
  rcases h.2 with h2 | ⟨g, cap, cur, hv, hg, hh, r⟩
  · exact .inl h2
  · exact .inr ⟨g, cap, cur, hv, hg, by rw [hb g (by rw [hv]; rfl)]; exact hh, r⟩

theorem OwnsOk.same {base : Nat} {β : Envr} {N : Nat → Prop} {w w' : World} {ow : List (Nat × Own)} (h : OwnsOk base β N w ow) (hw : Same N w w') (hb : ∀ i b, (findB ow i).isSome = true → (β.r i).ownBlock = some b → w'.heap[b]? = w.heap[b]?) : OwnsOk base β N w' ow := by
  intro i o hi
  obtain ⟨xs, h1, h2, h3, h4⟩ := h i o hi
  exact ⟨xs, ownsRow_turn h1 (fun b hbb => hb i b (by rw [hi]; rfl) hbb), h2, fun k j x v hk hx hv => (h3 k j x v hk hx hv).same hw, h4⟩

theorem OwnsOk.less {base : Nat} {β : Envr} {N N' : Nat → Prop} {w : World} {ow : List (Nat × Own)} (h : OwnsOk base β N w ow) (hN : ∀ b, b < w.heap.size → N' b → N b) : OwnsOk base β N' w ow := by
  intro i o hi
  obtain ⟨xs, h1, h2, h3, h4⟩ := h i o hi
  exact ⟨xs, h1, h2, fun k j x v hk hx hv => (h3 k j x v hk hx hv).less hN, h4⟩

/-- State st stands for frame a and world w; the call began in world W. -/
structure Rel (W : World) (N0 F : Nat → Prop) (st : St) (β : Envr) (a : Act) (w : World) : Prop where
  keeps : Keeps F W w
  size : a.tmps.size = st.n
  defers : a.defers = []
  slots : ∀ s x, findB st.sl s = some x → SDen β (NB N0 β st.bx st.ow) w x (tv a s)
  guards : ∀ s g p x, findB st.gl s = some (g, p, x) → SlotOk β (NB N0 β st.bx st.ow) a w s (.grd g p x)
  boxes : BoxOk β (NB N0 β st.bx st.ow) w st.bx
  inj : ∀ i j, (findB st.bx i).isSome = true → (findB st.bx j).isSome = true → β.b i = β.b j → i = j
  own : ∀ i, (findB st.bx i).isSome = true → W.heap.size ≤ β.b i ∨ F (β.b i)
  outer : ∀ b, N0 b → b < W.heap.size ∧ ¬ F b
  owns : OwnsOk W.heap.size β (NB N0 β st.bx st.ow) w st.ow
  odist : ∀ i j b, (findB st.ow i).isSome = true → (findB st.ow j).isSome = true → (β.r i).ownBlock = some b → (β.r j).ownBlock = some b → i = j
  obox : ∀ i j, (findB st.ow i).isSome = true → (findB st.bx j).isSome = true → (β.r i).ownBlock ≠ some (β.b j)
  onx : ∀ i, (findB st.ow i).isSome = true → i < st.nx

theorem OwnsOk.lt {base : Nat} {β : Envr} {N : Nat → Prop} {w : World} {ow : List (Nat × Own)} (h : OwnsOk base β N w ow) {i b : Nat} (hi : (findB ow i).isSome = true) (hb : (β.r i).ownBlock = some b) : base ≤ b ∧ b < w.heap.size := by
  cases hf : findB ow i with
  | none => rw [hf] at hi; cases hi
  | some o =>
    obtain ⟨xs, h1, _⟩ := h i o hf
    exact h1.lt b hb

theorem Rel.NB_lt {W : World} {N0 F : Nat → Prop} {st : St} {β : Envr} {a : Act} {w : World} (h : Rel W N0 F st β a w) : ∀ b, NB N0 β st.bx st.ow b → b < w.heap.size := by
  rintro b (hb | ⟨i, hi, rfl⟩ | ⟨i, hi, hb⟩)
  · exact Nat.lt_of_lt_of_le (h.outer b hb).1 h.keeps.size
  · cases hf : findB st.bx i with
    | none => rw [hf] at hi; cases hi
    | some p =>
      obtain ⟨vs, hv, _⟩ := h.boxes i p.1 p.2 hf
      exact (Array.getElem?_eq_some_iff.1 hv).1
  · exact (h.owns.lt hi hb).2

theorem tv_put_same {a : Act} {d : Nat} {v : Value} (h : d < a.tmps.size) : tv (a.put (some d) v) d = v := by
  unfold tv Act.put
  simp [Array.getD, h]
theorem tv_put_other {a : Act} {d s : Nat} {v : Value} (h : s ≠ d) : tv (a.put (some d) v) s = tv a s := by
  simp only [tv, Act.put, Array.getD_eq_getD_getElem?, Array.getElem?_setIfInBounds_ne (Ne.symm h)]
theorem put_size {a : Act} {d : Option Nat} {v : Value} : (a.put d v).tmps.size = a.tmps.size := by
  cases d <;> simp [Act.put]
theorem put_defers' {a : Act} {d : Option Nat} {v : Value} : (a.put d v).defers = a.defers := by
  cases d <;> rfl

/-- What an entry says of slot s holds of another frame that agrees on s and on the guard. -/
theorem SlotOk.turn {β : Envr} {N : Nat → Prop} {a a' : Act} {w : World} {s : Nat} {x : SV} (h : SlotOk β N a w s x) (hs : tv a' s = tv a s) (hg : ∀ g p y, x = .grd g p y → tv a' g = tv a g) : SlotOk β N a' w s x := by
  cases x with
  | grd g p y =>
    have := hg g p y rfl
    simp only [SlotOk] at *
    rw [this, hs]; exact h
  | d x => simp only [SlotOk] at *; rw [hs]; exact h
  | loc i o => simp only [SlotOk] at *; rw [hs]; exact h
  | elem sz n f i o => simp only [SlotOk] at *; rw [hs]; exact h
  | tup l => simp only [SlotOk] at *; rw [hs]; exact h
  | own i => simp only [SlotOk] at *; rw [hs]; exact h

theorem SlotOk.same {β : Envr} {N : Nat → Prop} {a : Act} {w w' : World} {s : Nat} {x : SV} (hw : Same N w w') (h : SlotOk β N a w s x) : SlotOk β N a w' s x := by
  cases x with
  | grd g p y => exact ⟨fun e => (h.1 e).same hw, h.2⟩
  | d x => exact SDen.same hw h
  | loc i o => exact SDen.same hw h
  | elem sz n f i o => exact SDen.same hw h
  | tup l => exact SDen.same hw h
  | own i => exact SDen.same hw h

theorem SlotOk.of_den {β : Envr} {N : Nat → Prop} {a : Act} {w : World} {s : Nat} {x : SV} (h : SDen β N w x (tv a s)) : SlotOk β N a w s x := by
  cases x with
  | grd g p y => cases h
  | d x => exact h
  | loc i o => exact h
  | elem sz n f i o => exact h
  | tup l => exact h
  | own i => exact h

theorem SlotOk.den {β : Envr} {N : Nat → Prop} {a : Act} {w : World} {s : Nat} {x : SV} (h : SlotOk β N a w s x) (hx : isG x = false) : SDen β N w x (tv a s) := by
  cases x with
  | grd g p y => cases hx
  | d x => exact h
  | loc i o => exact h
  | elem sz n f i o => exact h
  | tup l => exact h
  | own i => exact h

theorem CellsS.same {β : Envr} {N : Nat → Prop} {w w' : World} (hw : Same N w w') {cs : List SV} {vs : List Value} (h : CellsS β N w cs vs) : CellsS β N w' cs vs := ⟨h.1, fun j x v hx hv => (h.2 j x v hx hv).same hw⟩
theorem CellsS.less {β : Envr} {N N' : Nat → Prop} {w : World} (hN : ∀ b, b < w.heap.size → N' b → N b) {cs : List SV} {vs : List Value} (h : CellsS β N w cs vs) : CellsS β N' w cs vs := ⟨h.1, fun j x v hx hv => (h.2 j x v hx hv).less hN⟩
theorem CellsS.move {β : Envr} {N N' : Nat → Prop} {w w' : World} (hw : Same N w w') (hN : ∀ b, b < w.heap.size → N' b → N b) {cs : List SV} {vs : List Value} (h : CellsS β N w cs vs) : CellsS β N' w' cs vs := ⟨h.1, fun j x v hx hv => (h.2 j x v hx hv).move hw hN⟩
theorem BoxOk.same {β : Envr} {N : Nat → Prop} {w w' : World} {bx : List (Nat × TypeId × List SV)} (hw : Same N w w') (hb : ∀ i, (findB bx i).isSome = true → w'.heap[β.b i]? = w.heap[β.b i]?) (h : BoxOk β N w bx) : BoxOk β N w' bx := by
  intro i T cs hf
  obtain ⟨vs, h1, h2, h3⟩ := h i T cs hf
  exact ⟨vs, by rw [hb i (by rw [hf]; rfl)]; exact h1, ⟨h2.1, fun j x v hx hv => (h2.2 j x v hx hv).same hw⟩, h3⟩

/-- After a call that makes new blocks alone. -/
theorem Rel.below {W : World} {N0 F : Nat → Prop} {st : St} {β : Envr} {a : Act} {w w' : World} (h : Rel W N0 F st β a w) (hb : Below w.heap.size w w') : Rel W N0 F st β a w' := by
  have hs : Same (NB N0 β st.bx st.ow) w w' := .of_below hb
  refine ⟨h.keeps.below hb, h.size, h.defers, fun s x hx => (h.slots s x hx).same hs, fun s g p x hx => (h.guards s g p x hx).same hs, h.boxes.same hs (fun i hi => hb.block _ (h.NB_lt _ (.inr (.inl ⟨i, hi, rfl⟩)))), h.inj, h.own, h.outer,
    h.owns.same hs (fun i b hi hb' => hb.block _ (h.owns.lt hi hb').2), h.odist, h.obox, h.onx⟩

/-- A slot is written. -/
theorem Rel.put {W : World} {N0 F : Nat → Prop} {st st' : St} {β : Envr} {a : Act} {w : World} (h : Rel W N0 F st β a w) {d : Nat} {x : SV} (hs : st.put d x = some st') {v : Value}
    (hx : SDen β (NB N0 β st.bx st.ow) w x v) : Rel W N0 F st' β (a.put (some d) v) w := by
  unfold St.put at hs
  split at hs
  · rename_i hc
    simp only [Bool.and_eq_true] at hc
    simp only [Option.some.injEq] at hs; subst hs
    have hd : d < st.n := Nat.le_of_ble_eq_true hc.1.1
    refine ⟨h.keeps, by rw [put_size]; exact h.size, by rw [put_defers']; exact h.defers, fun s y hy => ?_, fun s g p y hy => ?_, h.boxes, h.inj, h.own, h.outer, h.owns, h.odist, h.obox, h.onx⟩
    · simp only [findB_cons] at hy
      split at hy
      · rename_i e
        simp only [Option.some.injEq] at hy; subst hy; subst e
        rw [tv_put_same (by rw [h.size]; exact hd)]; exact hx
      · rename_i e
        rw [tv_put_other e]; exact h.slots s y hy
    · have hne : s ≠ d := fun e => by rw [e, isNone_eq hc.1.2] at hy; cases hy
      exact (h.guards s g p y hy).turn (tv_put_other hne) (fun g' p' z e => tv_put_other (by
        obtain ⟨rfl, _, _⟩ := SV.grd.inj e
        exact noGuard_ok hc.2 (findB_mem hy)))
  · cases hs

theorem Rel.putG {W : World} {N0 F : Nat → Prop} {st st' : St} {β : Envr} {a : Act} {w : World} (h : Rel W N0 F st β a w) {d g : Nat} {p : Bool} {x : SV} (hs : st.putG d g p x = some st') {v : Value}
    (hx : SlotOk β (NB N0 β st.bx st.ow) (a.put (some d) v) w d (.grd g p x)) : Rel W N0 F st' β (a.put (some d) v) w := by
  unfold St.putG at hs
  split at hs
  · rename_i hc
    simp only [Bool.and_eq_true] at hc
    simp only [Option.some.injEq] at hs; subst hs
    refine ⟨h.keeps, by rw [put_size]; exact h.size, by rw [put_defers']; exact h.defers, fun s y hy => ?_, fun s g' p' y hy => ?_, h.boxes, h.inj, h.own, h.outer, h.owns, h.odist, h.obox, h.onx⟩
    · have hne : s ≠ d := fun e => by
        have hy' : findB st.sl s = some y := hy
        rw [e, isNone_eq hc.1.1.2] at hy'; cases hy'
      rw [tv_put_other hne]; exact h.slots s y hy
    · simp only [findB_cons] at hy
      split at hy
      · rename_i e
        simp only [Option.some.injEq, Prod.mk.injEq] at hy
        obtain ⟨rfl, rfl, rfl⟩ := hy
        subst e
        exact hx
      · rename_i e
        exact (h.guards s g' p' y hy).turn (tv_put_other e) (fun g2 p2 z e2 => tv_put_other (by
          obtain ⟨rfl, _, _⟩ := SV.grd.inj e2
          exact noGuard_ok hc.1.2 (findB_mem hy)))
  · cases hs

theorem Rel.clean {W : World} {N0 F : Nat → Prop} {st : St} {β : Envr} {a : Act} {w : World} (h : Rel W N0 F st β a w) : Rel W N0 F st.clean β a w :=
  ⟨h.keeps, h.size, h.defers, h.slots, fun s g p x hx => (by cases hx), h.boxes, h.inj, h.own, h.outer, h.owns, h.odist, h.obox, h.onx⟩

theorem Rel.find_ok {W : World} {N0 F : Nat → Prop} {st : St} {β : Envr} {a : Act} {w : World} (h : Rel W N0 F st β a w) : ∀ s x, st.find s = some x → SlotOk β (NB N0 β st.bx st.ow) a w s x := by
  intro s x hx
  unfold St.find at hx
  split at hx
  · rename_i g p y hy
    simp only [Option.some.injEq] at hx; subst hx
    exact h.guards s g p y hy
  · exact SlotOk.of_den (h.slots s x hx)

/-- What an operand is looked up as is what it evaluates to. -/
theorem lookF_ok {β : Envr} {N : Nat → Prop} {a : Act} {w : World} {find : Nat → Option SV} (hf : ∀ s x, find s = some x → SlotOk β N a w s x) {G : List (Nat × Bool)} (hG : ∀ gp ∈ G, tv a gp.1 = .bool gp.2)
    {x : Operand} {s : SV} (h : lookF find G x = some s) : SDen β N w s (a.eval x) := by
  cases x with
  | tmp t =>
    simp only [lookF] at h
    cases hft : find t with
    | none => rw [hft] at h; cases h
    | some y =>
      rw [hft] at h
      have hy := hf t y hft
      cases y with
      | grd g p z =>
        simp only [unG] at h
        split at h
        · rename_i hh
          simp only [Option.some.injEq] at h; subst h
          exact hy.1 (hG _ (hasG_mem hh))
        · cases h
      | d z => simp only [unG, Option.some.injEq] at h; subst h; exact hy
      | loc i o => simp only [unG, Option.some.injEq] at h; subst h; exact hy
      | elem sz n f i o => simp only [unG, Option.some.injEq] at h; subst h; exact hy
      | tup l => simp only [unG, Option.some.injEq] at h; subst h; exact hy
      | own i => simp only [unG, Option.some.injEq] at h; subst h; exact hy
  | const v => simp only [lookF, Option.some.injEq] at h; subst h; exact .d (ofVal_ok v)
  | func f => simp only [lookF, Option.some.injEq] at h; subst h; exact .d (.val _)
  | global g => simp only [lookF, Option.some.injEq] at h; subst h; exact .d (.val _)

theorem St.look_ok {W : World} {N0 F : Nat → Prop} {st : St} {β : Envr} {a : Act} {w : World} (h : Rel W N0 F st β a w) {G : List (Nat × Bool)} (hG : ∀ gp ∈ G, tv a gp.1 = .bool gp.2) {x : Operand} {s : SV}
    (hx : st.look G x = some s) : SDen β (NB N0 β st.bx st.ow) w s (a.eval x) :=
  lookF_ok h.find_ok hG hx

end Go.Sim

namespace Go.Sim
open Go.RowKit (Below)

def noName (d : Nat) : List (Nat × SV) → Bool
  | [] => true
  | (_, x) :: l => match x.names d with
    | true => false
    | false => noName d l
theorem noName_mem {d : Nat} : ∀ {l : List (Nat × SV)} {s : Nat} {x : SV}, noName d l = true → (s, x) ∈ l → x.names d = false
  | (k, y) :: l, s, x, h, hm => by
    simp only [noName] at h
    split at h
    · cases h
    · rename_i hc
      rcases List.mem_cons.1 hm with hm | hm
      · obtain ⟨rfl, rfl⟩ := Prod.mk.inj hm; exact hc
      · exact noName_mem h hm
def noNameG (d : Nat) : List (Nat × Nat × Bool × SV) → Bool
  | [] => true
  | (_, _, _, x) :: l => match x.names d with
    | true => false
    | false => noNameG d l
theorem noNameG_mem {d : Nat} : ∀ {l : List (Nat × Nat × Bool × SV)} {s g : Nat} {p : Bool} {x : SV}, noNameG d l = true → (s, g, p, x) ∈ l → x.names d = false
  | (k, h', q, y) :: l, s, g, p, x, h, hm => by
    simp only [noNameG] at h
    split at h
    · cases h
    · rename_i hc
      rcases List.mem_cons.1 hm with hm | hm
      · simp only [Prod.mk.injEq] at hm
        obtain ⟨_, _, _, rfl⟩ := hm; exact hc
      · exact noNameG_mem h hm

/-- No cell of a box names box d. -/
def noNameC (d : Nat) : List SV → Bool
  | [] => true
  | x :: l => match x.names d with
    | true => false
    | false => noNameC d l
theorem noNameC_mem {d : Nat} : ∀ {l : List SV} {x : SV}, noNameC d l = true → x ∈ l → x.names d = false
  | y :: l, x, h, hm => by
    simp only [noNameC] at h
    split at h
    · cases h
    · rename_i hc
      rcases List.mem_cons.1 hm with hm | hm
      · obtain rfl := hm; exact hc
      · exact noNameC_mem h hm
def noNameB (d : Nat) : List (Nat × TypeId × List SV) → Bool
  | [] => true
  | (_, _, l) :: r => match noNameC d l with
    | true => noNameB d r
    | false => false
theorem noNameB_find {d i : Nat} {T : TypeId} {cs : List SV} : ∀ {l : List (Nat × TypeId × List SV)}, noNameB d l = true → (i, T, cs) ∈ l → noNameC d cs = true
  | (k, T', cs') :: l, h, hm => by
    simp only [noNameB] at h
    split at h
    · rename_i hc
      rcases List.mem_cons.1 hm with hm | hm
      · obtain ⟨_, hm⟩ := Prod.mk.inj hm
        obtain ⟨_, rfl⟩ := Prod.mk.inj hm
        exact hc
      · exact noNameB_find h hm
    · cases h
def St.newBox (st : St) (d : Nat) (T : TypeId) (l : List RV) : Option St :=
  match isNone (findB st.bx d) && noName d st.sl && noNameG d st.gl && noNameB d st.bx && allOne l && Nat.blt d st.n && isNone (findB st.gl d) && noGuard d st.gl with
  | true => some ⟨st.n, (d, .loc d 0) :: st.sl, st.gl, (d, T, l.map .d) :: st.bx, st.ow, st.nx⟩
  | false => none

def setB (i : Nat) (c : TypeId × List SV) : List (Nat × TypeId × List SV) → List (Nat × TypeId × List SV)
  | [] => []
  | (k, x) :: l => match Nat.beq k i with
    | true => (k, c) :: l
    | false => (k, x) :: setB i c l

theorem findB_setB {i : Nat} {c : TypeId × List SV} : ∀ {l : List (Nat × TypeId × List SV)} (j : Nat), findB (setB i c l) j = if j = i then (findB l i).map (fun _ => c) else findB l j
  | [], j => by simp [setB, findB]
  | (k, x) :: l, j => by
    simp only [setB]
    cases hk : Nat.beq k i with
    | true =>
      have hk := Nat.eq_of_beq_eq_true hk
      subst hk
      simp only [findB]
      by_cases hj : j = k
      · subst hj; simp
      · have : Nat.beq k j = false := by cases h : Nat.beq k j with | false => rfl | true => exact absurd (Nat.eq_of_beq_eq_true h).symm hj
        simp [this, hj]
    | false =>
      simp only [findB]
      have ih := findB_setB (i := i) (c := c) (l := l) j
      cases hkj : Nat.beq k j with
      | true =>
        have hkj := Nat.eq_of_beq_eq_true hkj
        subst hkj
        have : k ≠ i := fun e => by rw [e] at hk; simp at hk
        simp [this]
      | false => simp only [ih, hk]

def upd (β : Envr) (d b : Nat) : Envr := ⟨fun j => if j = d then b else β.b j, β.r⟩
/-- A row that the call owns gets its value. -/
def updR (β : Envr) (i : Nat) (v : Value) : Envr := ⟨β.b, fun j => if j = i then v else β.r j⟩

theorem grdOn_names : True := trivial

theorem SlotOk.turnBox {β β' : Envr} {N : Nat → Prop} {a : Act} {w : World} {s d : Nat} {x : SV} (h : SlotOk β N a w s x) (hβ : ∀ j, j ≠ d → β'.b j = β.b j) (hr : β'.r = β.r) (hx : x.names d = false) : SlotOk β' N a w s x := by
  cases x with
  | grd g p y => exact ⟨fun e => (h.1 e).turn hβ hr (by simpa [SV.names] using hx), h.2⟩
  | d x => exact SDen.turn hβ hr h hx
  | loc i o => exact SDen.turn hβ hr h hx
  | elem sz n f i o => exact SDen.turn hβ hr h hx
  | tup l => exact SDen.turn hβ hr h hx
  | own i => exact SDen.turn hβ hr h hx

theorem SlotOk.less {β : Envr} {N N' : Nat → Prop} {a : Act} {w : World} {s : Nat} {x : SV} (hN : ∀ b, b < w.heap.size → N' b → N b) (h : SlotOk β N a w s x) : SlotOk β N' a w s x := by
  cases x with
  | grd g p y => exact ⟨fun e => (h.1 e).less hN, h.2⟩
  | d x => exact SDen.less hN h
  | loc i o => exact SDen.less hN h
  | elem sz n f i o => exact SDen.less hN h
  | tup l => exact SDen.less hN h
  | own i => exact SDen.less hN h

section
variable {W : World} {N0 F : Nat → Prop} {st : St} {β : Envr} {a : Act} {w : World}

theorem Rel.newBox (h : Rel W N0 F st β a w) {d : Nat} {T : TypeId} {l : List RV} {st' : St} (hs : st.newBox d T l = some st') {vs : List Value} (hc : Cells (NB N0 β st.bx st.ow) w l vs) :
    Rel W N0 F st' (upd β d w.heap.size) (a.put (some d) (.pointer (some ⟨w.heap.size, 0, none⟩))) (w.alloc (.cells vs.toArray T)) := by
  unfold St.newBox at hs
  split at hs
  · rename_i hcond
    simp only [Option.some.injEq] at hs; subst hs
    simp only [Bool.and_eq_true] at hcond
    obtain ⟨⟨⟨⟨⟨⟨⟨hfind, hn⟩, hnG⟩, hnB⟩, ha⟩, hd⟩, hgd⟩, hng⟩ := hcond
    have hfind := isNone_eq hfind
    have hgd := isNone_eq hgd
    have hd : d < st.n := Nat.le_of_ble_eq_true hd
    have hb : Below w.heap.size w (w.alloc (.cells vs.toArray T)) := (Below.refl _ _).alloc (Nat.le_refl _) _
    have hβ : ∀ j, j ≠ d → (upd β d w.heap.size).b j = β.b j := fun j hj => by simp [upd, hj]
    have hβr : (upd β d w.heap.size).r = β.r := rfl
    have hβd : (upd β d w.heap.size).b d = w.heap.size := by simp [upd]
    have hin : ∀ i, (findB st.bx i).isSome = true → i ≠ d := fun i hi e => by rw [e, hfind] at hi; cases hi
    have hfb : ∀ i, findB ((d, T, l.map SV.d) :: st.bx) i = if i = d then some (T, l.map SV.d) else findB st.bx i := fun i => by
      simp only [findB]
      cases hk : Nat.beq d i with
      | true => have := Nat.eq_of_beq_eq_true hk; subst this; simp
      | false =>
        have : i ≠ d := fun e => by rw [e] at hk; simp at hk
        simp [this]
    have hNB : ∀ b, b < w.heap.size → NB N0 (upd β d w.heap.size) ((d, T, l.map SV.d) :: st.bx) st.ow b → NB N0 β st.bx st.ow b := by
      rintro b hlt (h0 | ⟨i, hi, rfl⟩ | ⟨i, hi, hb⟩)
      · exact .inl h0
      · rw [hfb] at hi
        by_cases e : i = d
        · subst e; rw [hβd] at hlt; exact absurd hlt (Nat.lt_irrefl _)
        · rw [if_neg e] at hi
          exact .inr (.inl ⟨i, hi, (hβ i e).symm⟩)
      · exact .inr (.inr ⟨i, hi, hb⟩)
    have hsame : Same (NB N0 (upd β d w.heap.size) ((d, T, l.map SV.d) :: st.bx) st.ow) w (w.alloc (.cells vs.toArray T)) := .of_below hb
    have hnew : (w.alloc (.cells vs.toArray T)).heap[w.heap.size]? = some (.cells vs.toArray T (0, 0)) := heap_alloc_new w _
    refine ⟨h.keeps.below hb, by rw [put_size]; exact h.size, by rw [put_defers']; exact h.defers, fun s y hy => ?_, fun s g p y hy => ?_, ?_, ?_, ?_, h.outer, ?_, h.odist, ?_, h.onx⟩
    · simp only [findB_cons] at hy
      split at hy
      · rename_i e
        simp only [Option.some.injEq] at hy; subst hy; subst e
        rw [tv_put_same (by rw [h.size]; exact hd)]
        have := SDen.loc (β := upd β s w.heap.size) (N := NB N0 (upd β s w.heap.size) ((s, T, l.map SV.d) :: st.bx) st.ow) (w := w.alloc (.cells vs.toArray T)) s 0
        rwa [hβd] at this
      · rename_i e
        rw [tv_put_other e]
        exact ((SDen.turn hβ hβr (h.slots s y hy) (noName_mem hn (findB_mem hy))).less hNB).same hsame
    · have hne : s ≠ d := fun e => by
        have hy' : findB st.gl s = some (g, p, y) := hy
        rw [e, hgd] at hy'; cases hy'
      have h4 := ((h.guards s g p y hy).turnBox hβ hβr (by simpa [SV.names] using noNameG_mem hnG (findB_mem hy))).less hNB
      exact (h4.same hsame).turn (tv_put_other hne) (fun g2 p2 z e2 => tv_put_other (by
        obtain ⟨rfl, _, _⟩ := SV.grd.inj e2
        exact noGuard_ok hng (findB_mem hy)))
    · intro i T' cs hf
      rw [hfb] at hf
      by_cases e : i = d
      · subst e
        rw [if_pos rfl] at hf
        obtain ⟨rfl, rfl⟩ := Prod.mk.inj (Option.some.inj hf)
        exact ⟨vs, by rw [hβd]; exact hnew, CellsS.of_cells ⟨hc.1, fun j x v hx hv => ((hc.2 j x v hx hv).less hNB).same hsame⟩, hc.oneCell ha⟩
      · rw [if_neg e] at hf
        obtain ⟨us, u1, u2, u3⟩ := h.boxes i T' cs hf
        have hlt := h.NB_lt (β.b i) (.inr (.inl ⟨i, by rw [hf]; rfl, rfl⟩))
        have hcn := noNameB_find hnB (findB_mem hf)
        exact ⟨us, by rw [hβ i e, hb.block _ hlt]; exact u1, ⟨u2.1, fun j x v hx hv => (((u2.2 j x v hx hv).turn hβ hβr (noNameC_mem hcn (List.mem_of_getElem? hx))).less hNB).same hsame⟩, u3⟩
    · intro i j hi hj hij
      rw [hfb] at hi hj
      by_cases ei : i = d <;> by_cases ej : j = d
      · rw [ei, ej]
      · rw [if_neg ej] at hj
        rw [ei, hβd, hβ j ej] at hij
        have := h.NB_lt (β.b j) (.inr (.inl ⟨j, hj, rfl⟩))
        omega
      · rw [if_neg ei] at hi
        rw [ej, hβd, hβ i ei] at hij
        have := h.NB_lt (β.b i) (.inr (.inl ⟨i, hi, rfl⟩))
        omega
      · rw [if_neg ei] at hi; rw [if_neg ej] at hj
        rw [hβ i ei, hβ j ej] at hij
        exact h.inj i j hi hj hij
    · intro i hi
      rw [hfb] at hi
      by_cases e : i = d
      · rw [e, hβd]; exact .inl h.keeps.size
      · rw [if_neg e] at hi; rw [hβ i e]; exact h.own i hi
    · have h5 : OwnsOk W.heap.size (upd β d w.heap.size) (NB N0 β st.bx st.ow) w st.ow := h.owns
      exact (h5.less hNB).same hsame (fun i b hi hb' => hb.block _ (h.owns.lt hi hb').2)
    · intro i j hi hj e
      rw [hfb] at hj
      have hlt := (h.owns.lt hi e).2
      by_cases ej : j = d
      · rw [ej, hβd] at hlt; exact absurd hlt (Nat.lt_irrefl _)
      · rw [if_neg ej] at hj
        rw [hβ j ej] at e
        exact h.obox i j hi hj e
  · cases hs

/-- Cells are laid over those of a box. -/
def St.store (st : St) (i off : Nat) (l : List SV) : Option St :=
  match findB st.bx i with
  | some (T, cs) => match Nat.ble (off + l.length) cs.length with
    | true => some ⟨st.n, st.sl, st.gl, setB i (T, layAt cs off l) st.bx, st.ow, st.nx⟩
    | false => none
  | none => none

theorem Rel.store (h : Rel W N0 F st β a w) {i off : Nat} {l : List SV} {st' : St} (hs : st.store i off l = some st') {vs : List Value} (hc : CellsS β (NB N0 β st.bx st.ow) w l vs) (hone : ∀ v ∈ vs, v.oneCell' = true) (P : Program) :
    ∃ w', (storeCells ⟨β.b i, off, none⟩ vs 0).run P w = .ok () w' ∧ Rel W N0 F st' β a w' := by
  unfold St.store at hs
  split at hs
  · rename_i T cs hf
    split at hs
    · rename_i hcond
      simp only [Option.some.injEq] at hs; subst hs
      have hle := Nat.le_of_ble_eq_true hcond
      obtain ⟨us, u1, u2, u3⟩ := h.boxes i T cs hf
      have hrun := run_storeCells_at (P := P) (β.b i) off T vs 0 us.toArray w u1 (by have := u2.1; have := hc.1; simp; omega) hone
      simp only [Nat.add_zero] at hrun
      refine ⟨_, hrun, ?_⟩
      have hNBeq : ∀ b, NB N0 β (setB i (T, layAt cs off l) st.bx) st.ow b ↔ NB N0 β st.bx st.ow b := by
        intro b
        have hiso : ∀ j, (findB (setB i (T, layAt cs off l) st.bx) j).isSome = (findB st.bx j).isSome := fun j => by
          rw [findB_setB]; split
          · rename_i e; subst e; simp [hf]
          · rfl
        unfold NB
        simp only [hiso]
      have hiso : ∀ j, (findB (setB i (T, layAt cs off l) st.bx) j).isSome = (findB st.bx j).isSome := fun j => by
        rw [findB_setB]; split
        · rename_i e; subst e; simp [hf]
        · rfl
      have hNi : NB N0 β st.bx st.ow (β.b i) := .inr (.inl ⟨i, by rw [hf]; rfl, rfl⟩)
      generalize hw' : w.setRow (β.b i) _ = w' at *
      have hsize : w'.heap.size = w.heap.size := by rw [← hw']; simp [World.setRow]
      have hother : ∀ k, k ≠ β.b i → w'.heap[k]? = w.heap[k]? := fun k hk => by rw [← hw']; exact setRow_other w (β.b i) k _ hk
      have hsame : Same (NB N0 β st.bx st.ow) w w' := ⟨by rw [hsize]; exact Nat.le_refl _, fun k _ hN => hother k (fun e => hN (e ▸ hNi))⟩
      have hlss : ∀ b, b < w'.heap.size → NB N0 β (setB i (T, layAt cs off l) st.bx) st.ow b → NB N0 β st.bx st.ow b := fun b _ hb => (hNBeq b).1 hb
      refine ⟨⟨?_, ?_, ?_, ?_, ?_⟩, h.size, h.defers, fun s x hx => ((h.slots s x hx).same hsame).less hlss, fun s g p x hx => ((h.guards s g p x hx).same hsame).less hlss, ?_, ?_, ?_, h.outer, ?_, h.odist, ?_, h.onx⟩
      · rw [← hw']; exact h.keeps.os
      · rw [← hw']; exact h.keeps.tape
      · rw [← hw']; exact h.keeps.output
      · rw [hsize]; exact h.keeps.size
      · intro k hk hF
        rw [hother k ?_]
        · exact h.keeps.block k hk hF
        · intro e
          rcases h.own i (by rw [hf]; rfl) with hh | hh
          · omega
          · exact hF (e ▸ hh)
      · intro j T' cs' hf'
        rw [findB_setB] at hf'
        by_cases e : j = i
        · subst e
          rw [if_pos rfl, hf] at hf'
          simp only [Option.map_some, Option.some.injEq, Prod.mk.injEq] at hf'
          obtain ⟨rfl, rfl⟩ := hf'
          have hlay := CellsS.layAt (off := off) u2 hc
          refine ⟨_, by rw [← hw']; exact setRow_heap w (β.b j) _ _ _ _ u1, ?_, ?_⟩
          · exact ⟨by simpa using hlay.1, fun k x v hx hv => ((hlay.2 k x v hx (by simpa using hv)).same hsame).less hlss⟩
          · intro v hv
            simp only [List.append_assoc, List.mem_append] at hv
            rcases hv with hv | hv | hv
            · exact u3 v (List.mem_of_mem_take hv)
            · exact hone v hv
            · exact u3 v (List.mem_of_mem_drop hv)
        · rw [if_neg e] at hf'
          obtain ⟨ts, t1, t2, t3⟩ := h.boxes j T' cs' hf'
          have hne : β.b j ≠ β.b i := fun hh => e (h.inj j i (by rw [hf']; rfl) (by rw [hf]; rfl) hh)
          exact ⟨ts, by rw [hother _ hne]; exact t1, ⟨t2.1, fun k x v hx hv => ((t2.2 k x v hx hv).same hsame).less hlss⟩, t3⟩
      · intro j k hj hk; rw [hiso] at hj hk; exact h.inj j k hj hk
      · intro j hj; rw [hiso] at hj; exact h.own j hj
      · exact (h.owns.same hsame (fun j b hj hb => hother b (fun e => h.obox j i hj (by rw [hf]; rfl) (by rw [hb, e])))).less hlss
      · intro j k hj hk; rw [hiso] at hk; exact h.obox j k hj hk
    · cases hs
  · cases hs

end
end Go.Sim

