/- append to a row that the call owns. Conditions: none. -/
import Derived.Test.YtekifbnnkcgipaaDoorSimJ
import Derived.Maps.AppendAt
import Derived.Laws.OwnMore
namespace Go.Sim
open Go.RowKit (Below)

def eraseO (i : Nat) : List (Nat × Own) → List (Nat × Own)
  | [] => []
  | (k, x) :: l => match Nat.beq k i with
    | true => eraseO i l
    | false => (k, x) :: eraseO i l
theorem findB_eraseO {i : Nat} : ∀ {l : List (Nat × Own)} (j : Nat), findB (eraseO i l) j = if j = i then none else findB l j
  | [], j => by simp [eraseO, findB]
  | (k, x) :: l, j => by
    simp only [eraseO]
    have ih := findB_eraseO (i := i) (l := l) j
    cases hk : Nat.beq k i with
    | true =>
      have hk := Nat.eq_of_beq_eq_true hk
      subst hk
      simp only [ih, findB_cons]
      split <;> rfl
    | false =>
      simp only [findB_cons, ih]
      by_cases e : j = k
      · subst e
        have : j ≠ i := fun e => by rw [e] at hk; simp at hk
        simp [this]
      · simp [e]

/-- The row that is appended to. -/
def ownOf (st : St) (e sz : Nat) : SV → Option (Option Nat × Nat × (Nat → RV))
  | .own i => match findB st.ow i with
    | some o => match Nat.beq o.e e && Nat.beq o.sz sz with
      | true => some (some i, o.n, o.f)
      | false => none
    | none => none
  | .d .nil => some (none, 0, fun _ => .nil)
  | _ => none

/-- The rows that are left. -/
def takeO (ow : List (Nat × Own)) : Option Nat → List (Nat × Own)
  | some i => eraseO i ow
  | none => ow

/-- What is appended. -/
def moreOf (sz : Nat) : SV → Option (Nat × (Nat → RV))
  | .d (.row s m g) => match Nat.beq s sz with
    | true => some (m, g)
    | false => none
  | _ => none

def joinF (n : Nat) (f g : Nat → RV) : Nat → RV := fun k => bif Nat.blt k n then f k else g (k - n)

/-- Does x name row i? -/
def SV.namesO (i : Nat) : SV → Bool
  | .own j => Nat.beq j i
  | .d _ => false
  | .elem .. => false
  | .loc _ _ => false
  | .tup l => namesOL i l
  | .grd _ _ x => x.namesO i
where
  namesOL (i : Nat) : List SV → Bool
    | [] => false
    | x :: l => x.namesO i || namesOL i l

theorem namesOL_mem {i : Nat} : ∀ {l : List SV} {x : SV}, SV.namesO.namesOL i l = false → x ∈ l → x.namesO i = false
  | y :: l, x, h, hx => by
    simp only [SV.namesO.namesOL, Bool.or_eq_false_iff] at h
    rcases List.mem_cons.1 hx with rfl | hx
    · exact h.1
    · exact namesOL_mem h.2 hx

def noO (i : Nat) : List (Nat × SV) → Bool
  | [] => true
  | (_, x) :: l => match x.namesO i with
    | true => false
    | false => noO i l
theorem noO_mem {i : Nat} : ∀ {l : List (Nat × SV)} {s : Nat} {x : SV}, noO i l = true → (s, x) ∈ l → x.namesO i = false
  | (k, y) :: l, s, x, h, hm => by
    simp only [noO] at h
    split at h
    · cases h
    · rename_i hc
      rcases List.mem_cons.1 hm with hm | hm
      · obtain ⟨rfl, rfl⟩ := Prod.mk.inj hm; exact hc
      · exact noO_mem h hm

def noOG (i : Nat) : List (Nat × Nat × Bool × SV) → Bool
  | [] => true
  | (_, _, _, x) :: l => match x.namesO i with
    | true => false
    | false => noOG i l
theorem noOG_mem {i : Nat} : ∀ {l : List (Nat × Nat × Bool × SV)} {s g : Nat} {p : Bool} {x : SV}, noOG i l = true → (s, g, p, x) ∈ l → x.namesO i = false
  | (k, h', q, y) :: l, s, g, p, x, h, hm => by
    simp only [noOG] at h
    split at h
    · cases h
    · rename_i hc
      rcases List.mem_cons.1 hm with hm | hm
      · simp only [Prod.mk.injEq] at hm
        obtain ⟨_, _, _, rfl⟩ := hm; exact hc
      · exact noOG_mem h hm

def St.append (τ : Tab) (st : St) (d : Nat) (T : TypeId) (s t : SV) : Option (List Prop × St) :=
  match Ty τ T with
  | some (.slice e) => match findB τ e with
    | some (i, _) => match i.zero with
      | some z => match Nat.beq z.cells.size i.size && Nat.ble 1 i.size && Nat.ble 1 i.bytes && Nat.blt d st.n && isNone (findB st.gl d) && noGuard d st.gl && noO st.nx st.sl && noOG st.nx st.gl with
        | true => match ownOf st e i.size s, moreOf i.size t with
          | some (id, n, f), some (m, g) => some ([(n + m) * i.bytes ≤ 140737488351232],
              ⟨st.n, (d, .own st.nx) :: st.sl, st.gl, st.bx, (st.nx, ⟨e, i.size, n + m, joinF n f g⟩) :: takeO st.ow id, st.nx + 1⟩)
          | _, _ => none
        | false => none
      | none => none
    | none => none
  | _ => none

section
variable {P : Program} {τ : Tab} [TabOk P τ] {W : World} {N0 F : Nat → Prop} {st : St} {β : Envr} {a : Act} {w : World}

theorem SlotOk.move {N N' : Nat → Prop} {w' : World} {s : Nat} {x : SV} (hw : Same N w w') (hN : ∀ b, b < w.heap.size → N' b → N b) (h : SlotOk β N a w s x) : SlotOk β N' a w' s x := by
  cases x with
  | grd g p y => exact ⟨fun e => (h.1 e).move hw hN, h.2⟩
  | d x => exact SDen.move hw hN h
  | loc i o => exact SDen.move hw hN h
  | elem sz n f i o => exact SDen.move hw hN h
  | tup l => exact SDen.move hw hN h
  | own i => exact SDen.move hw hN h

theorem SDen.turnO {N : Nat → Prop} {i : Nat} {v : Value} {x : SV} {u : Value} (h : SDen β N w x u) (hx : x.namesO i = false) : SDen (updR β i v) N w x u := by
  induction h with
  | d h => exact .d h
  | loc j off => exact SDen.loc (β := updR β i v) (N := N) (w := w) j off
  | own j =>
    have hj : j ≠ i := fun e => by rw [e] at hx; simp [SV.namesO] at hx
    have := SDen.own (β := updR β i v) (N := N) (w := w) j
    simpa [updR, hj] using this
  | elem sz n f i off b o c hi hb hN hsz hc ho hd => exact .elem sz n f i off b o c hi hb hN hsz hc ho hd
  | tup l vs hl hd ih => exact .tup l vs hl fun j x v hj hv => ih j x v hj hv (namesOL_mem hx (List.mem_of_getElem? hj))

theorem SlotOk.turnO {N : Nat → Prop} {i s : Nat} {v : Value} {x : SV} (h : SlotOk β N a w s x) (hx : x.namesO i = false) : SlotOk (updR β i v) N a w s x := by
  cases x with
  | grd g p y => exact ⟨fun e => (h.1 e).turnO (by simpa [SV.namesO] using hx), h.2⟩
  | d x => exact SDen.turnO h hx
  | loc i o => exact SDen.turnO h hx
  | elem sz n f i o => exact SDen.turnO h hx
  | tup l => exact SDen.turnO h hx
  | own j => exact SDen.turnO h hx

theorem takeO_isSome {ow : List (Nat × Own)} {id : Option Nat} {j : Nat} (h : (findB (takeO ow id) j).isSome = true) : (findB ow j).isSome = true ∧ id ≠ some j := by
  cases id with
  | none => exact ⟨h, by simp⟩
  | some i =>
    simp only [takeO, findB_eraseO] at h
    split at h
    · cases h
    · rename_i e
      exact ⟨h, fun e' => e (Option.some.inj e').symm⟩
theorem takeO_find {ow : List (Nat × Own)} {id : Option Nat} {j : Nat} {o : Own} (h : findB (takeO ow id) j = some o) : findB ow j = some o := by
  cases id with
  | none => exact h
  | some i =>
    simp only [takeO, findB_eraseO] at h
    split at h
    · cases h
    · exact h

theorem Rel.append (h : Rel W N0 F st β a w) {d : Nat} {T : TypeId} {s t : SV} {ps : List Prop} {st' : St} (hs : st.append τ d T s t = some (ps, st')) (hp : ∀ p ∈ ps, p) {u v : Value}
    (hu : SDen β (NB N0 β st.bx st.ow) w s u) (hv : SDen β (NB N0 β st.bx st.ow) w t v) (ty : TypeId) :
    ∃ r w' β', (Builtin.append_ #[T, T] ty #[u, v]).run P w = .ok r w' ∧ Rel W N0 F st' β' (a.put (some d) r) w' := by
  unfold St.append at hs
  split at hs
  case h_2 => cases hs
  rename_i e hT
  split at hs
  case h_2 => cases hs
  rename_i i d' hfe
  split at hs
  case h_2 => cases hs
  rename_i z hz
  split at hs
  case h_2 => cases hs
  rename_i hcond
  split at hs
  case h_2 => cases hs
  rename_i id n f m g hown hmore
  simp only [Option.some.injEq, Prod.mk.injEq] at hs
  obtain ⟨rfl, rfl⟩ := hs
  simp only [Bool.and_eq_true] at hcond
  obtain ⟨⟨⟨⟨⟨⟨⟨c1, c2⟩, c3⟩, c4⟩, c5⟩, c6⟩, c7⟩, c8⟩ := hcond
  have c1 := Nat.eq_of_beq_eq_true c1
  have c2 := Nat.le_of_ble_eq_true c2
  have c3 := Nat.le_of_ble_eq_true c3
  have hd : d < st.n := Nat.le_of_ble_eq_true c4
  have hT' : P.underlying T = some (.slice e) := TabOk.ty T _ hT
  have hi : P.info? e = some i := (TabOk.all (P := P) e i d' hfe).1
  have hbound : (n + m) * i.bytes ≤ 140737488351232 := hp _ (List.mem_singleton.2 rfl)
  have hnm : n + m ≤ (n + m) * i.bytes := Nat.le_mul_of_pos_right _ (by omega)
  -- the row that is appended to
  have hsrc : ∃ xs : List Value, w.ownsRow W.heap.size e i.size u n xs ∧ (∀ k, k < n → (f k).cells.length = i.size) ∧
      (∀ (k j : Nat) x v, k < n → (f k).cells[j]? = some x → xs[k * i.size + j]? = some v → RDen (NB N0 β st.bx st.ow) w x v) ∧ (∀ v ∈ xs, v.oneCell' = true) ∧
      (∀ b, u.ownBlock = some b → ∃ k, id = some k ∧ (findB st.ow k).isSome = true ∧ (β.r k).ownBlock = some b) := by
    unfold ownOf at hown
    split at hown
    · rename_i k
      split at hown
      · rename_i o ho
        split at hown
        · rename_i hc
          simp only [Option.some.injEq, Prod.mk.injEq] at hown
          obtain ⟨rfl, rfl, rfl⟩ := hown
          simp only [Bool.and_eq_true] at hc
          have e1 := Nat.eq_of_beq_eq_true hc.1
          have e2 := Nat.eq_of_beq_eq_true hc.2
          obtain ⟨xs, h1, h2, h3, h4⟩ := h.owns k o ho
          rw [e1, e2] at h1
          rw [e2] at h2 h3
          have hur : u = β.r k := by cases hu; rfl
          rw [hur]
          exact ⟨xs, h1, h2, h3, h4, fun b hb => ⟨k, rfl, by rw [ho]; rfl, hb⟩⟩
        · cases hown
      · cases hown
    · simp only [Option.some.injEq, Prod.mk.injEq] at hown
      obtain ⟨rfl, rfl, rfl⟩ := hown
      cases hu with
      | d hu => cases hu with
        | none => exact ⟨[], World.ownsRow_nil _ _ _ _, fun k hk => absurd hk (Nat.not_lt_zero k), fun k j x v hk => absurd hk (Nat.not_lt_zero k), fun v hv => (by cases hv), fun b hb => (by cases hb)⟩
    · cases hown
  obtain ⟨xs, o1, o2, o3, o4, o5⟩ := hsrc
  -- what is appended
  have hnew : ∃ (ad : Addr) (news : List Value), news.length = m * i.size ∧ (∀ v ∈ news, v.oneCell' = true) ∧ (∀ k, k < m → (g k).cells.length = i.size) ∧
      (∀ (k j : Nat) x y, k < m → (g k).cells[j]? = some x → news[k * i.size + j]? = some y → RDen (NB N0 β st.bx st.ow) w x y) ∧
      ((v = .slice none 0 0 ∧ m = 0) ∨ ∃ cap, v = .slice (some ad) m cap ∧ ∀ j y, news[j]? = some y → w.cell? (ad.add j) = some y) := by
    unfold moreOf at hmore
    split at hmore
    · split at hmore
      · rename_i hb
        obtain rfl := Nat.eq_of_beq_eq_true hb
        simp only [Option.some.injEq, Prod.mk.injEq] at hmore
        obtain ⟨hm1, hm2⟩ := hmore
        subst hm1; subst hm2
        rename_i s0 m g hb0
        cases hv with
        | d hv => cases hv with
          | nil => exact ⟨⟨0, 0, none⟩, [], by simp, fun v hv => (by cases hv), fun k hk => absurd hk (Nat.not_lt_zero k), fun k j x y hk => absurd hk (Nat.not_lt_zero k), .inl ⟨rfl, rfl⟩⟩
          | row _ _ _ b o cap c hcap hb' hN hsz hc ho hd =>
            have hidx : ∀ k j, j < i.size → (k * i.size + j) / i.size = k ∧ (k * i.size + j) % i.size = j := fun k j hj => by
              constructor
              · rw [Nat.add_comm, Nat.add_mul_div_right _ _ (by omega), Nat.div_eq_of_lt hj, Nat.zero_add]
              · rw [Nat.add_comm, Nat.add_mul_mod_self_right, Nat.mod_eq_of_lt hj]
            have hq : ∀ q, q < m * i.size → q / i.size < m ∧ q % i.size < i.size := fun q hq => ⟨Nat.div_lt_of_lt_mul (by rw [Nat.mul_comm]; exact hq), Nat.mod_lt _ (by omega)⟩
            refine ⟨⟨b, o, none⟩, (List.range (m * i.size)).map (fun q => c (q / i.size) (q % i.size)), by simp, fun v hv => ?_, hsz, fun k j x y hk hx hy => ?_, .inr ⟨cap, rfl, fun j y hy => ?_⟩⟩
            · obtain ⟨q, hqm, rfl⟩ := List.mem_map.1 hv
              obtain ⟨a1, a2⟩ := hq q (List.mem_range.1 hqm)
              exact ho _ _ a1 a2
            · have hj : j < i.size := by rw [← hsz k hk]; exact (List.getElem?_eq_some_iff.1 hx).1
              rw [List.getElem?_map] at hy
              cases hr : (List.range (m * i.size))[k * i.size + j]? with
              | none => rw [hr] at hy; cases hy
              | some q =>
                rw [hr] at hy
                have hqv : q = k * i.size + j := by
                  obtain ⟨hlt, hqe⟩ := List.getElem?_eq_some_iff.1 hr
                  rw [List.getElem_range] at hqe; exact hqe.symm
                simp only [Option.map_some, Option.some.injEq] at hy
                rw [hqv, (hidx k j hj).1, (hidx k j hj).2] at hy
                rw [← hy]
                exact hd k j x hk hx
            · rw [List.getElem?_map] at hy
              cases hr : (List.range (m * i.size))[j]? with
              | none => rw [hr] at hy; cases hy
              | some q =>
                rw [hr] at hy
                obtain ⟨hlt, hqe⟩ := List.getElem?_eq_some_iff.1 hr
                rw [List.getElem_range] at hqe
                subst hqe
                simp only [Option.map_some, Option.some.injEq] at hy
                rw [← hy, add_at]
                have hlt : j < m * i.size := by simpa using hlt
                obtain ⟨a1, a2⟩ := hq j hlt
                have := hc _ _ a1 a2
                rw [Nat.div_add_mod'] at this
                exact this
      · cases hmore
    · cases hmore
  obtain ⟨ad, news, n1, n2, n3, n4, n5⟩ := hnew
  -- the run
  have hrun : ∃ r w', (Builtin.append_ #[T, T] ty #[u, v]).run P w = .ok r w' ∧ w'.ownsRow W.heap.size e i.size r (n + m) (xs ++ news) ∧ w.grownBy w' u.ownBlock ∧ (r.ownBlock = u.ownBlock ∨ r.ownBlock = some w.heap.size) := by
    rcases n5 with ⟨rfl, rfl⟩ | ⟨cap, rfl, hcells⟩
    · have hn0 : news = [] := List.eq_nil_of_length_eq_zero (by simpa using n1)
      subst hn0
      exact ⟨u, w, run_append_owned_none (P := P) (w := w) W.heap.size T ty e i i.size hT' hi u n xs o1, by simpa using o1, ⟨rfl, rfl, rfl, Nat.le_refl _, fun _ _ _ => rfl⟩, .inl rfl⟩
    · obtain ⟨r, w', r1, r2, r3, _, r5⟩ := run_append_own_at (P := P) w W.heap.size T ty e i z i.size i.bytes hT' hi hz rfl rfl c1 (by omega) u n xs o1 ad m cap news n1 hcells n2 (by unfold maxLen; omega) (by omega) h.keeps.size
      exact ⟨r, w', r1, r2, r3, r5⟩
  obtain ⟨r, w', r1, r2, r3, r4⟩ := hrun
  refine ⟨r, w', updR β st.nx r, r1, ?_⟩
  have hNu : ∀ b, u.ownBlock = some b → NB N0 β st.bx st.ow b := fun b hb => by
    obtain ⟨k, _, k2, k3⟩ := o5 b hb
    exact .inr (.inr ⟨k, k2, k3⟩)
  have hsame : Same (NB N0 β st.bx st.ow) w w' := ⟨r3.size, fun k hk hN => r3.block k hk (fun e => hN (hNu k e.symm))⟩
  have hfo : ∀ j, findB ((st.nx, (⟨e, i.size, n + m, joinF n f g⟩ : Own)) :: takeO st.ow id) j = if j = st.nx then some ⟨e, i.size, n + m, joinF n f g⟩ else findB (takeO st.ow id) j := fun j => findB_cons j
  have hnx : ∀ j, (findB st.ow j).isSome = true → j ≠ st.nx := fun j hj e => by have := h.onx j hj; omega
  have hrj : ∀ j, j ≠ st.nx → (updR β st.nx r).r j = β.r j := fun j hj => by simp [updR, hj]
  have hrn : (updR β st.nx r).r st.nx = r := by simp [updR]
  have hNB : ∀ b, b < w.heap.size → NB N0 (updR β st.nx r) st.bx ((st.nx, (⟨e, i.size, n + m, joinF n f g⟩ : Own)) :: takeO st.ow id) b → NB N0 β st.bx st.ow b := by
    rintro b hlt (h0 | ⟨j, hj, hb⟩ | ⟨j, hj, hb⟩)
    · exact .inl h0
    · exact .inr (.inl ⟨j, hj, hb⟩)
    · rw [hfo] at hj
      by_cases ej : j = st.nx
      · rw [ej, hrn] at hb
        rcases r4 with r4 | r4
        · exact hNu b (by rw [← r4]; exact hb)
        · rw [r4] at hb; have := Option.some.inj hb; omega
      · rw [if_neg ej] at hj
        rw [hrj j ej] at hb
        exact .inr (.inr ⟨j, (takeO_isSome hj).1, hb⟩)
  have hkeepO : ∀ j b, (findB (takeO st.ow id) j).isSome = true → (β.r j).ownBlock = some b → w'.heap[b]? = w.heap[b]? := fun j b hj hb => by
    obtain ⟨j1, j2⟩ := takeO_isSome hj
    refine r3.block b (h.owns.lt j1 hb).2 (fun e => ?_)
    obtain ⟨k, k1, k2, k3⟩ := o5 b e.symm
    exact j2 (by rw [k1, h.odist j k b j1 k2 hb k3])
  refine ⟨⟨?_, ?_, ?_, ?_, ?_⟩, by rw [put_size]; exact h.size, by rw [put_defers']; exact h.defers, fun s' y hy => ?_, fun s' g' p' y hy => ?_, ?_, h.inj, h.own, h.outer, ?_, ?_, ?_, ?_⟩
  · exact r3.os.trans h.keeps.os
  · exact r3.tape.trans h.keeps.tape
  · exact r3.output.trans h.keeps.output
  · exact Nat.le_trans h.keeps.size r3.size
  · intro k hk hF
    rw [r3.block k (Nat.lt_of_lt_of_le hk h.keeps.size) (fun e => ?_)]
    · exact h.keeps.block k hk hF
    · have := (o1.lt k e.symm).1; omega
  · simp only [findB_cons] at hy
    split at hy
    · rename_i e'
      simp only [Option.some.injEq] at hy; subst hy; subst e'
      rw [tv_put_same (by rw [h.size]; exact hd)]
      have := SDen.own (β := updR β st.nx r) (N := NB N0 (updR β st.nx r) st.bx ((st.nx, (⟨e, i.size, n + m, joinF n f g⟩ : Own)) :: takeO st.ow id)) (w := w') st.nx
      rwa [hrn] at this
    · rename_i e'
      rw [tv_put_other e']
      exact (SDen.turnO (h.slots s' y hy) (noO_mem c7 (findB_mem hy))).move hsame hNB
  · have hne : s' ≠ d := fun e' => by
      have hy' : findB st.gl s' = some (g', p', y) := hy
      rw [e', isNone_eq c5] at hy'; cases hy'
    have hgn := c8
    exact (((h.guards s' g' p' y hy).turnO (by simpa [SV.namesO] using noOG_mem c8 (findB_mem hy))).move hsame hNB).turn (tv_put_other hne) (fun g2 p2 z e2 => tv_put_other (by
      obtain ⟨rfl, _, _⟩ := SV.grd.inj e2
      exact noGuard_ok c6 (findB_mem hy)))
  · intro j T' cs hf
    obtain ⟨us, u1, u2, u3⟩ := h.boxes j T' cs hf
    have hne : some (β.b j) ≠ u.ownBlock := fun e' => by
      obtain ⟨k, _, k2, k3⟩ := o5 _ e'.symm
      exact h.obox k j k2 (by rw [hf]; rfl) k3
    exact ⟨us, by show w'.heap[β.b j]? = _; rw [r3.block _ (Array.getElem?_eq_some_iff.1 u1).1 hne]; exact u1, ⟨u2.1, fun k x v hx hv => (u2.2 k x v hx hv).move hsame hNB⟩, u3⟩
  · intro j o hj
    rw [hfo] at hj
    by_cases ej : j = st.nx
    · rw [if_pos ej] at hj
      obtain rfl := Option.some.inj hj
      rw [ej, hrn]
      have hk0 : ∀ k, k < (⟨e, i.size, n + m, joinF n f g⟩ : Own).n → k < n + m := fun _ h => h
      refine ⟨xs ++ news, r2, fun k hk => ?_, fun k j x y hk hx (hy : (xs ++ news)[k * i.size + j]? = some y) => ?_, fun y hy => ?_⟩
      · simp only [joinF]
        cases hb : Nat.blt k n with
        | true => exact o2 k (Nat.le_of_ble_eq_true hb)
        | false =>
          have hb' : ¬ k < n := fun hlt => by rw [show Nat.blt k n = true from Nat.ble_eq_true_of_le hlt] at hb; cases hb
          exact n3 (k - n) (by simp at hk; omega)
      · simp only [joinF] at hx
        have hlen : xs.length = n * i.size := o1.1
        replace hk := hk0 k hk
        cases hb : Nat.blt k n with
        | true =>
          have hlt : k < n := Nat.le_of_ble_eq_true hb
          rw [hb] at hx
          simp only [cond_true] at hx
          have hj : j < i.size := by rw [← o2 k hlt]; exact (List.getElem?_eq_some_iff.1 hx).1
          have hin : k * i.size + j < n * i.size := by
            have : (k + 1) * i.size ≤ n * i.size := Nat.mul_le_mul_right _ hlt
            rw [Nat.add_mul] at this; omega
          rw [List.getElem?_append_left (by omega)] at hy
          exact (o3 k j x y hlt hx hy).move hsame hNB
        | false =>
          have hb' : ¬ k < n := fun hlt => by rw [show Nat.blt k n = true from Nat.ble_eq_true_of_le hlt] at hb; cases hb
          rw [hb] at hx
          simp only [cond_false] at hx
          have hk' : k - n < m := by omega
          have hin : n * i.size ≤ k * i.size := Nat.mul_le_mul_right _ (by omega)
          rw [List.getElem?_append_right (by omega), hlen] at hy
          have : k * i.size + j - n * i.size = (k - n) * i.size + j := by rw [Nat.sub_mul]; omega
          simp only [this] at hy
          exact (n4 (k - n) j x y hk' hx hy).move hsame hNB
      · rcases List.mem_append.1 hy with hy | hy
        · exact o4 y hy
        · exact n2 y hy
    · rw [if_neg ej] at hj
      rw [hrj j ej]
      have hj' := takeO_find hj
      obtain ⟨ys, y1, y2, y3, y4⟩ := h.owns j o hj'
      exact ⟨ys, ownsRow_turn y1 (fun b hb => hkeepO j b (by rw [hj]; rfl) hb), y2, fun k q x v hk hx hv => (y3 k q x v hk hx hv).move hsame hNB, y4⟩
  · intro j k b hj hk hbj hbk
    rw [hfo] at hj hk
    have fresh : ∀ q, q ≠ st.nx → (findB (takeO st.ow id) q).isSome = true → (β.r q).ownBlock = some b → r.ownBlock ≠ some b := fun q hq hqs hqb hrb => by
      obtain ⟨q1, q2⟩ := takeO_isSome hqs
      rcases r4 with r4 | r4
      · obtain ⟨k, k1, k2, k3⟩ := o5 b (by rw [← r4]; exact hrb)
        exact q2 (by rw [k1, h.odist q k b q1 k2 hqb k3])
      · rw [r4] at hrb
        have := Option.some.inj hrb
        have := (h.owns.lt q1 hqb).2
        omega
    by_cases ej : j = st.nx <;> by_cases ek : k = st.nx
    · rw [ej, ek]
    · rw [if_neg ek] at hk
      rw [ej, hrn] at hbj; rw [hrj k ek] at hbk
      exact absurd hbj (fresh k ek hk hbk)
    · rw [if_neg ej] at hj
      rw [ek, hrn] at hbk; rw [hrj j ej] at hbj
      exact absurd hbk (fresh j ej hj hbj)
    · rw [if_neg ej] at hj; rw [if_neg ek] at hk
      rw [hrj j ej] at hbj; rw [hrj k ek] at hbk
      exact h.odist j k b (takeO_isSome hj).1 (takeO_isSome hk).1 hbj hbk
  · intro j k hj hk hb
    rw [hfo] at hj
    have hb : ((updR β st.nx r).r j).ownBlock = some (β.b k) := hb
    by_cases ej : j = st.nx
    · rw [ej, hrn] at hb
      rcases r4 with r4 | r4
      · obtain ⟨q, q1, q2, q3⟩ := o5 _ (by rw [← r4]; exact hb)
        exact h.obox q k q2 hk q3
      · rw [r4] at hb
        have := Option.some.inj hb
        have := h.NB_lt (β.b k) (.inr (.inl ⟨k, hk, rfl⟩))
        omega
    · rw [if_neg ej] at hj
      rw [hrj j ej] at hb
      exact h.obox j k (takeO_isSome hj).1 hk hb
  · intro j hj
    rw [hfo] at hj
    show j < st.nx + 1
    by_cases ej : j = st.nx
    · omega
    · rw [if_neg ej] at hj
      have := h.onx j (takeO_isSome hj).1
      omega


/-- A row that the call owns, seen as a plain row. -/
theorem own_row {base : Nat} {N N' : Nat → Prop} {ow : List (Nat × Own)} (h : OwnsOk base β N w ow) (hN : ∀ b, b < w.heap.size → N' b → N b) {i : Nat} {o : Own} (hi : findB ow i = some o)
    (hn : ∀ b, (β.r i).ownBlock = some b → ¬ N' b) : RDen N' w (.row o.sz o.n o.f) (β.r i) := by
  obtain ⟨xs, ⟨hl, h1⟩, h2, h3, h4⟩ := h i o hi
  rcases h1 with ⟨hv, hn0⟩ | ⟨g, cap, cur, hv, hg, hh, hcap, _, hcs, hxs⟩
  · rw [hv, hn0]; exact .nil _ _
  · have hgs : g < w.heap.size := (Array.getElem?_eq_some_iff.1 hh).1
    have hin : ∀ k j, k < o.n → j < o.sz → k * o.sz + j < o.n * o.sz := fun k j hk hj => by
      have : (k + 1) * o.sz ≤ o.n * o.sz := Nat.mul_le_mul_right _ hk
      rw [Nat.add_mul] at this; omega
    rw [hv]
    refine .row o.sz o.n o.f g 0 cap (fun k j => xs.getD (k * o.sz + j) undef) hcap hgs (hn g (by rw [hv]; rfl)) h2 (fun k j hk hj => ?_) (fun k j hk hj => ?_) (fun k j x hk hx => ?_)
    · have hlt := hin k j hk hj
      have hx : xs[k * o.sz + j]? = some (xs.getD (k * o.sz + j) undef) := by
        rw [List.getD_eq_getElem?_getD, List.getElem?_eq_getElem (by omega)]; rfl
      rw [← hx, ← hxs, List.getElem?_take, if_pos hlt, Array.getElem?_toList]
      unfold World.cell?
      rw [hh]
      simp
    · have hlt := hin k j hk hj
      refine h4 _ ?_
      rw [List.getD_eq_getElem?_getD, List.getElem?_eq_getElem (by omega)]
      exact List.getElem_mem _
    · have hj : j < o.sz := by rw [← h2 k hk]; exact (List.getElem?_eq_some_iff.1 hx).1
      have hlt := hin k j hk hj
      refine (h3 k j x _ hk hx ?_).less hN
      rw [List.getD_eq_getElem?_getD, List.getElem?_eq_getElem (by omega)]; rfl

/-- The rows that the call owns become plain rows. -/
def frz (ow : List (Nat × Own)) : SV → SV
  | .own i => match findB ow i with
    | some o => .d (.row o.sz o.n o.f)
    | none => .own i
  | .d x => .d x
  | .loc i o => .loc i o
  | .elem sz n f i o => .elem sz n f i o
  | .tup l => .tup (frzL ow l)
  | .grd g p x => .grd g p (frz ow x)
where
  frzL (ow : List (Nat × Own)) : List SV → List SV
    | [] => []
    | x :: l => frz ow x :: frzL ow l

theorem frzL_get {ow : List (Nat × Own)} : ∀ {l : List SV} {j : Nat} {y : SV}, (frz.frzL ow l)[j]? = some y → ∃ x, l[j]? = some x ∧ y = frz ow x
  | [], j, y, h => by simp [frz.frzL] at h
  | x :: l, j, y, h => by
    cases j with
    | zero => simp [frz.frzL] at h; exact ⟨x, by simp, h.symm⟩
    | succ j => obtain ⟨x', h1, h2⟩ := frzL_get (l := l) (j := j) (by simpa [frz.frzL] using h); exact ⟨x', by simpa using h1, h2⟩
theorem frzL_len {ow : List (Nat × Own)} : ∀ (l : List SV), (frz.frzL ow l).length = l.length
  | [] => rfl
  | x :: l => by simp [frz.frzL, frzL_len l]

def frzS (ow : List (Nat × Own)) : List (Nat × SV) → List (Nat × SV)
  | [] => []
  | (k, x) :: l => (k, frz ow x) :: frzS ow l
theorem findB_frzS {ow : List (Nat × Own)} {s : Nat} : ∀ {l : List (Nat × SV)}, findB (frzS ow l) s = (findB l s).map (frz ow)
  | [] => rfl
  | (k, x) :: l => by
    simp only [frzS, findB_cons, findB_frzS (l := l)]
    split <;> rfl
def frzG (ow : List (Nat × Own)) : List (Nat × Nat × Bool × SV) → List (Nat × Nat × Bool × SV)
  | [] => []
  | (k, g, p, x) :: l => (k, g, p, frz ow x) :: frzG ow l
theorem findB_frzG {ow : List (Nat × Own)} {s : Nat} : ∀ {l : List (Nat × Nat × Bool × SV)}, findB (frzG ow l) s = (findB l s).map (fun (g, p, x) => (g, p, frz ow x))
  | [] => rfl
  | (k, g, p, x) :: l => by
    simp only [frzG, findB_cons, findB_frzG (l := l)]
    split <;> rfl

def St.freeze (st : St) : St :=
  match st.ow with
  | [] => st
  | ow => ⟨st.n, frzS ow st.sl, frzG ow st.gl, st.bx, [], st.nx⟩

theorem SDen.frz {base : Nat} {N N' : Nat → Prop} {ow : List (Nat × Own)} (h : OwnsOk base β N w ow) (hN : ∀ b, b < w.heap.size → N' b → N b)
    (hn : ∀ i b, (findB ow i).isSome = true → (β.r i).ownBlock = some b → ¬ N' b) {x : SV} {v : Value} (hx : SDen β N w x v) : SDen β N' w (frz ow x) v := by
  induction hx with
  | d h => exact .d (h.less hN)
  | loc i off => exact .loc i off
  | own i =>
    simp only [Sim.frz]
    cases hf : findB ow i with
    | none => exact .own i
    | some o => exact .d (own_row h hN hf (fun b hb => hn i b (by rw [hf]; rfl) hb))
  | elem sz n f i off b o c hi hb hN' hsz hc ho hd => exact (SDen.elem sz n f i off b o c hi hb hN' hsz hc ho hd).less hN
  | tup l vs hl hd ih =>
    refine .tup _ vs (by rw [frzL_len]; exact hl) fun j x v hx hv => ?_
    obtain ⟨x', h1, rfl⟩ := frzL_get hx
    exact ih j x' v h1 hv

theorem SlotOk.frz {base : Nat} {N N' : Nat → Prop} {ow : List (Nat × Own)} (h : OwnsOk base β N w ow) (hN : ∀ b, b < w.heap.size → N' b → N b)
    (hn : ∀ i b, (findB ow i).isSome = true → (β.r i).ownBlock = some b → ¬ N' b) {s g : Nat} {p : Bool} {x : SV} (hx : SlotOk β N a w s (.grd g p x)) : SlotOk β N' a w s (.grd g p (Sim.frz ow x)) :=
  ⟨fun e => (hx.1 e).frz h hN hn, hx.2⟩

theorem Rel.freeze (h : Rel W N0 F st β a w) : Rel W N0 F st.freeze β a w := by
  unfold St.freeze
  split
  · exact h
  · rename_i ow hne
    have hN : ∀ b, b < w.heap.size → NB N0 β st.bx [] b → NB N0 β st.bx st.ow b := by
      rintro b _ (h0 | h1 | ⟨i, hi, _⟩)
      · exact .inl h0
      · exact .inr (.inl h1)
      · cases hi
    have hn : ∀ i b, (findB st.ow i).isSome = true → (β.r i).ownBlock = some b → ¬ NB N0 β st.bx [] b := by
      rintro i b hi hb (h0 | ⟨j, hj, rfl⟩ | ⟨j, hj, _⟩)
      · have := h.outer b h0
        have := (h.owns.lt hi hb).1
        omega
      · exact h.obox i j hi hj hb
      · cases hj
    refine ⟨h.keeps, h.size, h.defers, fun s x hx => ?_, fun s g p x hx => ?_, ?_, h.inj, h.own, h.outer, fun i o hi => (by cases hi), fun i j b hi => (by cases hi), fun i j hi => (by cases hi), fun i hi => (by cases hi)⟩
    · simp only [findB_frzS] at hx
      cases hf : findB st.sl s with
      | none => rw [hf] at hx; cases hx
      | some y =>
        rw [hf] at hx
        simp only [Option.map_some, Option.some.injEq] at hx; subst hx
        exact (h.slots s y hf).frz h.owns hN hn
    · simp only [findB_frzG] at hx
      cases hf : findB st.gl s with
      | none => rw [hf] at hx; cases hx
      | some y =>
        rw [hf] at hx
        obtain ⟨g', p', y⟩ := y
        simp only [Option.map_some, Option.some.injEq, Prod.mk.injEq] at hx
        obtain ⟨rfl, rfl, rfl⟩ := hx
        exact (h.guards s g' p' y hf).frz h.owns hN hn
    · intro i T cs hf
      obtain ⟨vs, h1, h2, h3⟩ := h.boxes i T cs hf
      exact ⟨vs, h1, ⟨h2.1, fun k x v hx hv => (h2.2 k x v hx hv).less hN⟩, h3⟩

end
end Go.Sim
