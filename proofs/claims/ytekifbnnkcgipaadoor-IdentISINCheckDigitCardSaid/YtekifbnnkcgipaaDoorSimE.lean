/- The rest of the operations that the interpreter answers. Conditions: none. -/
import Derived.Test.YtekifbnnkcgipaaDoorSimD
namespace Go.Sim
open Go.RowKit (Below)

section
variable {P : Program} {τ : Tab} [TabOk P τ] {β : Envr} {N : Nat → Prop} {w : World}

theorem byteAt_eq (s : ByteArray) (i : Nat) (h : i < s.size) : ∃ b, s[i]? = some b ∧ ((b.toNat : Nat) : Int) = byteAt s i := by
  refine ⟨s[i], by simp [h], ?_⟩
  unfold byteAt
  have hi : i < s.data.size := h
  have : s.data.getD i 0 = s.data[i] := by unfold Array.getD; rw [dif_pos hi]; rfl
  rw [this]
  rfl

theorem evIndex_ok {T : TypeId} {p q : SV} {ps : List Prop} {x : SV} (h : evIndex τ T p q = some (ps, x)) (hp : ∀ p ∈ ps, p) {u v : Value} (hu : SDen β N w p u) (hv : SDen β N w q v) :
    Gives P β N w (Instr.index T u v) x := by
  unfold evIndex at h
  split at h
  · rename_i s k n
    obtain rfl := hu.val; obtain rfl := hv.val
    split at h
    · rename_i ht
      simp only [Option.some.injEq, Prod.mk.injEq] at h
      obtain ⟨rfl, rfl⟩ := h
      have hb : 0 ≤ n ∧ n < (s.size : Int) := hp _ (List.mem_singleton.2 rfl)
      obtain ⟨b, h1, h2⟩ := byteAt_eq s n.toNat (by omega)
      refine .val ?_
      simp [Instr.index, asIntOf, run_ty ht, hb.1, h1, h2]
    · cases h
  · rename_i l k n
    obtain rfl := hv.val
    split at h
    · rename_i len e ht
      split at h
      · rename_i s hs
        split at h
        · rename_i r hr
          simp only [Option.some.injEq, Prod.mk.injEq] at h
          obtain ⟨rfl, rfl⟩ := h
          have hb : 0 ≤ n ∧ n < (len : Int) := hp _ (List.mem_singleton.2 rfl)
          cases hu with
          | d hu => cases hu with
            | agg _ vs hl hd =>
              obtain ⟨v, hv, hr⟩ := partR_ok (P := P) hr hl hd w
              exact .mk (v := v) (by simp [Instr.index, asIntOf, run_ty ht, run_size hs, hb, hv]) (.d hr)
        · cases h
      · cases h
    · cases h
  · cases h

theorem evIndexAddr_ok {T : TypeId} {p q : SV} {ps : List Prop} {x : SV} (h : evIndexAddr τ T p q = some (ps, x)) (hp : ∀ p ∈ ps, p) {u v : Value} (hu : SDen β N w p u) (hv : SDen β N w q v) :
    Gives P β N w (Instr.indexAt T u v) x := by
  unfold evIndexAddr at h
  split at h
  · rename_i sz n f k i
    obtain rfl := hv.val
    split at h
    · rename_i e ht
      split at h
      · rename_i s hs
        split at h
        · rename_i hsz'
          obtain rfl := Nat.eq_of_beq_eq_true hsz'
          simp only [Option.some.injEq, Prod.mk.injEq] at h
          obtain ⟨rfl, rfl⟩ := h
          have hb : 0 ≤ i ∧ i < (n : Int) := hp _ (List.mem_singleton.2 rfl)
          cases hu with
          | d hu => cases hu with
            | nil => simp at hb; omega
            | row _ _ _ b o cap c hcap hb' hN hsz hc ho hd =>
              refine .mk (v := .pointer (some ⟨b, o + (i.toNat * s + 0), none⟩)) ?_ (.elem s n f i.toNat 0 b o c (by omega) hb' hN hsz hc ho hd)
              simp [Instr.indexAt, asIntOf, run_ty ht, run_size hs, hb, add_at]
        · cases h
      · cases h
    · cases h
  · rename_i j o k i
    obtain rfl := hv.val
    split at h
    · rename_i len e ht
      split at h
      · rename_i s hs
        simp only [Option.some.injEq, Prod.mk.injEq] at h
        obtain ⟨rfl, rfl⟩ := h
        have hb : 0 ≤ i ∧ i < (len : Int) := hp _ (List.mem_singleton.2 rfl)
        cases hu
        refine .mk (v := .pointer (some ⟨β.b j, o + i.toNat * s, none⟩)) ?_ (.loc _ _)
        simp [Instr.indexAt, asIntOf, run_ty ht, run_size hs, hb, add_at, Instr.sureAddr]
      · cases h
    · cases h
  · cases h

/-- A bound as the model reads it. -/
theorem bound_ok {x : Value} {k : IntKind} {n : Int} {y : Nat} {code : BoundsCode} (hx : x = .int k n) (h : 0 ≤ n ∧ n ≤ (y : Int)) (w : World) : (Instr.sliceBound x y code).run P w = .ok n.toNat w := by
  subst hx
  simp [Instr.sliceBound, asIntOf, h]

theorem bnd_ok {x : Option SV} {d : Int} {l : List Int} {n : Int} (h : bnd x d = some (l, n)) {v : Option Value} (hv : ∀ s, x = some s → ∃ u, v = some u ∧ SDen β N w s u) (hn : x = none → v = none) :
    (x = none ∧ v = none ∧ l = [] ∧ n = d) ∨ (∃ k, v = some (.int k n) ∧ l = [n]) := by
  unfold bnd at h
  split at h
  · simp only [Option.some.injEq, Prod.mk.injEq] at h
    exact .inl ⟨rfl, hn rfl, h.1.symm, h.2.symm⟩
  · simp only [Option.some.injEq, Prod.mk.injEq] at h
    obtain ⟨u, rfl, hu⟩ := hv _ rfl
    obtain rfl := hu.val
    exact .inr ⟨_, by rw [h.2], by rw [← h.1, h.2]⟩
  · cases h

/-- Both bounds. -/
theorem bounds_ok {isS : Bool} {len cap : Nat} {lo hi : Option Value} {ls hs : List Int} {l h : Int} (hcap : len ≤ cap)
    (hhi : (hi = none ∧ hs = [] ∧ h = len) ∨ (∃ k, hi = some (.int k h) ∧ hs = [h])) (hlo : (lo = none ∧ ls = [] ∧ l = 0) ∨ (∃ k, lo = some (.int k l) ∧ ls = [l]))
    (h1 : ∀ x ∈ hs, 0 ≤ x ∧ x ≤ (len : Int)) (h2 : ∀ x ∈ ls, 0 ≤ x ∧ x ≤ h) (w : World) :
    0 ≤ h ∧ h ≤ len ∧ 0 ≤ l ∧ l ≤ h ∧ (Instr.sliceBounds isS len cap lo hi none).run P w = .ok (l.toNat, h.toNat, cap) w := by
  have a : 0 ≤ h ∧ h ≤ (len : Int) := by
    rcases hhi with ⟨_, _, rfl⟩ | ⟨k, _, rfl⟩
    · omega
    · exact h1 _ (List.mem_singleton.2 rfl)
  have b : 0 ≤ l ∧ l ≤ h := by
    rcases hlo with ⟨_, _, rfl⟩ | ⟨k, _, rfl⟩
    · omega
    · exact h2 _ (List.mem_singleton.2 rfl)
  refine ⟨a.1, a.2, b.1, b.2, ?_⟩
  have hH : ∀ c, (match hi with | some v => Instr.sliceBound v cap c | none => (pure len : Sem Nat)).run P w = .ok h.toNat w := fun c => by
    rcases hhi with ⟨rfl, _, rfl⟩ | ⟨k, rfl, _⟩
    · simp
    · exact bound_ok rfl ⟨a.1, by omega⟩ w
  have hL : ∀ c, (match lo with | some v => Instr.sliceBound v h.toNat c | none => (pure 0 : Sem Nat)).run P w = .ok l.toNat w := fun c => by
    rcases hlo with ⟨rfl, _, rfl⟩ | ⟨k, rfl, _⟩
    · simp
    · exact bound_ok rfl ⟨b.1, by omega⟩ w
  unfold Instr.sliceBounds
  rcases hhi with ⟨rfl, _, rfl⟩ | ⟨k, rfl, _⟩ <;> rcases hlo with ⟨rfl, _, rfl⟩ | ⟨k', rfl, _⟩ <;> simp_all

theorem evSlice_ok {T : TypeId} {p : SV} {lo hi : Option SV} {ps : List Prop} {x : SV} (h : evSlice τ T p lo hi = some (ps, x)) (hp : ∀ p ∈ ps, p) {u : Value} {vl vh : Option Value} (hu : SDen β N w p u)
    (hl : ∀ s, lo = some s → ∃ u, vl = some u ∧ SDen β N w s u) (hln : lo = none → vl = none) (hh : ∀ s, hi = some s → ∃ u, vh = some u ∧ SDen β N w s u) (hhn : hi = none → vh = none) :
    Gives P β N w (Instr.sliceAt T u vl vh none) x := by
  unfold evSlice at h
  split at h
  · rename_i s
    obtain rfl := hu.val
    split at h
    · rename_i hs h' ls l' ht hbh hbl
      simp only [Option.some.injEq, Prod.mk.injEq] at h
      obtain ⟨rfl, rfl⟩ := h
      have bh := bnd_ok (β := β) (N := N) (w := w) hbh hh hhn
      have bl := bnd_ok (β := β) (N := N) (w := w) hbl hl hln
      obtain ⟨a1, a2, a3, a4, hr⟩ := bounds_ok (P := P) (isS := false) (len := s.size) (cap := s.size) (lo := vl) (hi := vh) (Nat.le_refl _) (by rcases bh with ⟨_, a, b, c⟩ | h; exact .inl ⟨a, b, c⟩; exact .inr h)
        (by rcases bl with ⟨_, a, b, c⟩ | h; exact .inl ⟨a, b, c⟩; exact .inr h)
        (fun x hx => hp (0 ≤ x ∧ x ≤ (s.size : Int)) (List.mem_append.2 (.inl (List.mem_map.2 ⟨x, hx, rfl⟩)))) (fun x hx => hp (0 ≤ x ∧ x ≤ h') (List.mem_append.2 (.inr (List.mem_map.2 ⟨x, hx, rfl⟩)))) w
      refine .val ?_
      simp [Instr.sliceAt, Instr.slice, run_ty ht, hr]
    · cases h
  · rename_i sz n f
    split at h
    · rename_i e hs h' ls l' ht hbh hbl
      split at h
      · rename_i s hsz
        split at h
        · rename_i hb
          obtain rfl := Nat.eq_of_beq_eq_true hb
          simp only [Option.some.injEq, Prod.mk.injEq] at h
          obtain ⟨rfl, rfl⟩ := h
          have bh := bnd_ok (β := β) (N := N) (w := w) hbh hh hhn
          have bl := bnd_ok (β := β) (N := N) (w := w) hbl hl hln
          have fin : ∀ cap, n ≤ cap → _ := fun cap hc => bounds_ok (P := P) (isS := true) (len := n) (cap := cap) (lo := vl) (hi := vh) hc (by rcases bh with ⟨_, a, b, c⟩ | h; exact .inl ⟨a, b, c⟩; exact .inr h)
            (by rcases bl with ⟨_, a, b, c⟩ | h; exact .inl ⟨a, b, c⟩; exact .inr h)
            (fun x hx => hp (0 ≤ x ∧ x ≤ (n : Int)) (List.mem_append.2 (.inl (List.mem_map.2 ⟨x, hx, rfl⟩)))) (fun x hx => hp (0 ≤ x ∧ x ≤ h') (List.mem_append.2 (.inr (List.mem_map.2 ⟨x, hx, rfl⟩)))) w
          cases hu with
          | d hu => cases hu with
            | nil =>
              obtain ⟨a1, a2, a3, a4, hr⟩ := fin 0 (Nat.le_refl _)
              have e1 : h'.toNat = 0 := by omega
              have e2 : l'.toNat = 0 := by omega
              refine .mk (v := .slice none 0 0) ?_ ?_
              · simp [Instr.sliceAt, Instr.slice, run_ty ht, run_size hsz, hr, e1, e2]
              · rw [e1, e2]; exact .d (.nil _ _)
            | row _ _ _ b o cap c hcap hb' hN hsz' hc ho hd =>
              obtain ⟨a1, a2, a3, a4, hr⟩ := fin cap hcap
              by_cases hm : cap = l'.toNat
              · subst hm
                have e0 : h'.toNat - l'.toNat = 0 := by omega
                refine .mk (v := .slice (some ⟨b, o, none⟩) (h'.toNat - l'.toNat) (l'.toNat - l'.toNat)) ?_ ?_
                · simp [Instr.sliceAt, Instr.slice, run_ty ht, run_size hsz, hr]
                · rw [e0]
                  exact .d (.row s 0 _ b o _ c (Nat.zero_le _) hb' hN (fun k hk => absurd hk (Nat.not_lt_zero k)) (fun k j hk => absurd hk (Nat.not_lt_zero k)) (fun k j hk => absurd hk (Nat.not_lt_zero k)) (fun k j x hk => absurd hk (Nat.not_lt_zero k)))
              · refine .mk (v := .slice (some ⟨b, o + l'.toNat * s, none⟩) (h'.toNat - l'.toNat) (cap - l'.toNat)) ?_ ?_
                · simp [Instr.sliceAt, Instr.slice, run_ty ht, run_size hsz, hr, hm, add_at]
                · refine .d (.row s _ _ b _ _ (fun k j => c (l'.toNat + k) j) (by omega) hb' hN (fun k hk => hsz' _ (by omega)) (fun k j hk hj => ?_) (fun k j hk hj => ho _ _ (by omega) hj) (fun k j x hk hx => hd _ _ _ (by omega) hx))
                  have := hc (l'.toNat + k) j (by omega) hj
                  rw [Nat.add_mul] at this
                  rw [← this]
                  congr 2
                  omega
        · cases h
      · cases h
    · cases h
  · cases h

theorem evLen_ok {T : TypeId} {p : SV} {ps : List Prop} {x : SV} (h : evLen τ T p = some (ps, x)) {u : Value} (hu : SDen β N w p u) (t : TypeId) : Gives P β N w (Builtin.len_ #[T] t #[u]) x := by
  unfold evLen at h
  split at h
  · split at h
    · rename_i ht
      simp only [rv, Option.some.injEq, Prod.mk.injEq] at h
      obtain ⟨rfl, rfl⟩ := h
      cases hu with
      | d hu => cases hu with
        | none => exact .val (by simp [Builtin.len_, run_ty ht, goInt])
    · cases h
  · obtain rfl := hu.val
    split at h
    · rename_i ht
      simp only [rv, Option.some.injEq, Prod.mk.injEq] at h
      obtain ⟨rfl, rfl⟩ := h
      exact .val (by simp [Builtin.len_, run_ty ht, goInt])
    · cases h
  · split at h
    · rename_i ht
      simp only [rv, Option.some.injEq, Prod.mk.injEq] at h
      obtain ⟨rfl, rfl⟩ := h
      cases hu with
      | d hu => cases hu with
        | nil => exact .val (by simp [Builtin.len_, run_ty ht, goInt])
        | row => exact .val (by simp [Builtin.len_, run_ty ht, goInt])
    · cases h
  · cases h

end
end Go.Sim
