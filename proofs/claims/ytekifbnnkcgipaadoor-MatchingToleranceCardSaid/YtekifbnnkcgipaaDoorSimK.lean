/- append to a row that the call owns. Conditions: none. One operation, and a plain region. Conditions: none. A region whose order Go leaves open: in whatever order its operations come up, the entries are those of the text's order. Conditions: none. -/
import Derived.Test.YtekifbnnkcgipaaDoorSimE
import Derived.Maps.AppendAt
import Derived.Laws.OwnMore
namespace Go.Sim
open Go.RowKit (Below)

def eraseO (i : Nat) : List (Nat × Own) → List (Nat × Own)
  | [] => []
  | (k, x) :: l => match Nat.beq k i with
    | true => eraseO i l
    | false => (k, x) :: eraseO i l
theorem findB_eraseO {i : Nat} : ∀ {l : List (Nat × Own)} (j : Nat), findB (eraseO i l) j = if j = i then none else findB l j
  | [], j => by simp [eraseO, findB]
  | (k, x) :: l, j => by
    simp only [eraseO]
    have ih := findB_eraseO (i := i) (l := l) j
    cases hk : Nat.beq k i with
    | true =>
      have hk := Nat.eq_of_beq_eq_true hk
      subst hk
      simp only [ih, findB_cons]
      split <;> rfl
    | false =>
      simp only [findB_cons, ih]
      by_cases e : j = k
      · subst e
        have : j ≠ i := fun e => by rw [e] at hk; simp at hk
        simp [this]
      · simp [e]

/-- The row that is appended to. -/
def ownOf (st : St) (e sz : Nat) : SV → Option (Option Nat × Nat × (Nat → RV))
  | .own i => match findB st.ow i with
    | some o => match Nat.beq o.e e && Nat.beq o.sz sz with
      | true => some (some i, o.n, o.f)
      | false => none
    | none => none
  | .d .nil => some (none, 0, fun _ => .nil)
  | _ => none

/-- The rows that are left. -/
def takeO (ow : List (Nat × Own)) : Option Nat → List (Nat × Own)
  | some i => eraseO i ow
  | none => ow

/-- What is appended. -/
def moreOf (sz : Nat) : SV → Option (Nat × (Nat → RV))
  | .d (.row s m g) => match Nat.beq s sz with
    | true => some (m, g)
    | false => none
  | _ => none

def joinF (n : Nat) (f g : Nat → RV) : Nat → RV := fun k => bif Nat.blt k n then f k else g (k - n)

/-- Does x name row i? -/
def SV.namesO (i : Nat) : SV → Bool
  | .own j => Nat.beq j i
  | .d _ => false
  | .elem .. => false
  | .loc _ _ => false
  | .tup l => namesOL i l
  | .grd _ _ x => x.namesO i
where
  namesOL (i : Nat) : List SV → Bool
    | [] => false
    | x :: l => x.namesO i || namesOL i l

theorem namesOL_mem {i : Nat} : ∀ {l : List SV} {x : SV}, SV.namesO.namesOL i l = false → x ∈ l → x.namesO i = false
  | y :: l, x, h, hx => by
    simp only [SV.namesO.namesOL, Bool.or_eq_false_iff] at h
    rcases List.mem_cons.1 hx with rfl | hx
    · exact h.1
    · exact namesOL_mem h.2 hx

def noO (i : Nat) : List (Nat × SV) → Bool
  | [] => true
  | (_, x) :: l => match x.namesO i with
    | true => false
    | false => noO i l
theorem noO_mem {i : Nat} : ∀ {l : List (Nat × SV)} {s : Nat} {x : SV}, noO i l = true → (s, x) ∈ l → x.namesO i = false
  | (k, y) :: l, s, x, h, hm => by
    simp only [noO] at h
    split at h
    · cases h
    · rename_i hc
      rcases List.mem_cons.1 hm with hm | hm
      · obtain ⟨rfl, rfl⟩ := Prod.mk.inj hm; exact hc
      · exact noO_mem h hm

def noOG (i : Nat) : List (Nat × Nat × Bool × SV) → Bool
  | [] => true
  | (_, _, _, x) :: l => match x.namesO i with
    | true => false
    | false => noOG i l
theorem noOG_mem {i : Nat} : ∀ {l : List (Nat × Nat × Bool × SV)} {s g : Nat} {p : Bool} {x : SV}, noOG i l = true → (s, g, p, x) ∈ l → x.namesO i = false
  | (k, h', q, y) :: l, s, g, p, x, h, hm => by
    simp only [noOG] at h
    split at h
    · cases h
    · rename_i hc
      rcases List.mem_cons.1 hm with hm | hm
      · simp only [Prod.mk.injEq] at hm
        obtain ⟨_, _, _, rfl⟩ := hm; exact hc
      · exact noOG_mem h hm

def noOC (i : Nat) : List SV → Bool
  | [] => true
  | x :: l => match x.namesO i with
    | true => false
    | false => noOC i l
theorem noOC_mem {i : Nat} : ∀ {l : List SV} {x : SV}, noOC i l = true → x ∈ l → x.namesO i = false
  | y :: l, x, h, hm => by
    simp only [noOC] at h
    split at h
    · cases h
    · rename_i hc
      rcases List.mem_cons.1 hm with hm | hm
      · obtain rfl := hm; exact hc
      · exact noOC_mem h hm
def noOB (i : Nat) : List (Nat × TypeId × List SV) → Bool
  | [] => true
  | (_, _, l) :: r => match noOC i l with
    | true => noOB i r
    | false => false
theorem noOB_find {d i : Nat} {T : TypeId} {cs : List SV} : ∀ {l : List (Nat × TypeId × List SV)}, noOB d l = true → (i, T, cs) ∈ l → noOC d cs = true
  | (k, T', cs') :: l, h, hm => by
    simp only [noOB] at h
    split at h
    · rename_i hc
      rcases List.mem_cons.1 hm with hm | hm
      · obtain ⟨_, hm⟩ := Prod.mk.inj hm
        obtain ⟨_, rfl⟩ := Prod.mk.inj hm
        exact hc
      · exact noOB_find h hm
    · cases h

def St.append (τ : Tab) (st : St) (d : Nat) (T : TypeId) (s t : SV) : Option (List Prop × St) :=
  match Ty τ T with
  | some (.slice e) => match findB τ e with
    | some (i, _) => match i.zero with
      | some z => match Nat.beq z.cells.size i.size && Nat.ble 1 i.size && Nat.ble 1 i.bytes && Nat.blt d st.n && isNone (findB st.gl d) && noGuard d st.gl && noO st.nx st.sl && noOG st.nx st.gl && noOB st.nx st.bx with
        | true => match ownOf st e i.size s, moreOf i.size t with
          | some (id, n, f), some (m, g) => some ([(n + m) * i.bytes ≤ 140737488351232],
              ⟨st.n, (d, .own st.nx) :: st.sl, st.gl, st.bx, (st.nx, ⟨e, i.size, n + m, joinF n f g⟩) :: takeO st.ow id, st.nx + 1⟩)
          | _, _ => none
        | false => none
      | none => none
    | none => none
  | _ => none

section
variable {P : Program} {τ : Tab} [TabOk P τ] {W : World} {N0 F : Nat → Prop} {st : St} {β : Envr} {a : Act} {w : World}

theorem SlotOk.move {N N' : Nat → Prop} {w' : World} {s : Nat} {x : SV} (hw : Same N w w') (hN : ∀ b, b < w.heap.size → N' b → N b) (h : SlotOk β N a w s x) : SlotOk β N' a w' s x := by
  cases x with
  | grd g p y => exact ⟨fun e => (h.1 e).move hw hN, h.2⟩
  | d x => exact SDen.move hw hN h
  | loc i o => exact SDen.move hw hN h
  | elem sz n f i o => exact SDen.move hw hN h
  | tup l => exact SDen.move hw hN h
  | own i => exact SDen.move hw hN h

theorem SDen.turnO {N : Nat → Prop} {i : Nat} {v : Value} {x : SV} {u : Value} (h : SDen β N w x u) (hx : x.namesO i = false) : SDen (updR β i v) N w x u := by
  induction h with
  | d h => exact .d h
  | loc j off => exact SDen.loc (β := updR β i v) (N := N) (w := w) j off
  | own j =>
    have hj : j ≠ i := fun e => by rw [e] at hx; simp [SV.namesO] at hx
    have := SDen.own (β := updR β i v) (N := N) (w := w) j
    simpa [updR, hj] using this
  | elem sz n f i off b o c hi hb hN hsz hc ho hd => exact .elem sz n f i off b o c hi hb hN hsz hc ho hd
  | tup l vs hl hd ih => exact .tup l vs hl fun j x v hj hv => ih j x v hj hv (namesOL_mem hx (List.mem_of_getElem? hj))

theorem SlotOk.turnO {N : Nat → Prop} {i s : Nat} {v : Value} {x : SV} (h : SlotOk β N a w s x) (hx : x.namesO i = false) : SlotOk (updR β i v) N a w s x := by
  cases x with
  | grd g p y => exact ⟨fun e => (h.1 e).turnO (by simpa [SV.namesO] using hx), h.2⟩
  | d x => exact SDen.turnO h hx
  | loc i o => exact SDen.turnO h hx
  | elem sz n f i o => exact SDen.turnO h hx
  | tup l => exact SDen.turnO h hx
  | own j => exact SDen.turnO h hx

theorem takeO_isSome {ow : List (Nat × Own)} {id : Option Nat} {j : Nat} (h : (findB (takeO ow id) j).isSome = true) : (findB ow j).isSome = true ∧ id ≠ some j := by
  cases id with
  | none => exact ⟨h, by simp⟩
  | some i =>
    simp only [takeO, findB_eraseO] at h
    split at h
    · cases h
    · rename_i e
      exact ⟨h, fun e' => e (Option.some.inj e').symm⟩
theorem takeO_find {ow : List (Nat × Own)} {id : Option Nat} {j : Nat} {o : Own} (h : findB (takeO ow id) j = some o) : findB ow j = some o := by
  cases id with
  | none => exact h
  | some i =>
    simp only [takeO, findB_eraseO] at h
    split at h
    · cases h
    · exact h

theorem Rel.append (h : Rel W N0 F st β a w) {d : Nat} {T : TypeId} {s t : SV} {ps : List Prop} {st' : St} (hs : st.append τ d T s t = some (ps, st')) (hp : ∀ p ∈ ps, p) {u v : Value}
    (hu : SDen β (NB N0 β st.bx st.ow) w s u) (hv : SDen β (NB N0 β st.bx st.ow) w t v) (ty : TypeId) :
    ∃ r w' β', (Builtin.append_ #[T, T] ty #[u, v]).run P w = .ok r w' ∧ Rel W N0 F st' β' (a.put (some d) r) w' := by
  unfold St.append at hs
  split at hs
  case h_2 => cases hs
  rename_i e hT
  split at hs
  case h_2 => cases hs
  rename_i i d' hfe
  split at hs
  case h_2 => cases hs
  rename_i z hz
  split at hs
  case h_2 => cases hs
  rename_i hcond
  split at hs
  case h_2 => cases hs
  rename_i id n f m g hown hmore
  simp only [Option.some.injEq, Prod.mk.injEq] at hs
  obtain ⟨rfl, rfl⟩ := hs
  simp only [Bool.and_eq_true] at hcond
  obtain ⟨⟨⟨⟨⟨⟨⟨⟨c1, c2⟩, c3⟩, c4⟩, c5⟩, c6⟩, c7⟩, c8⟩, c9⟩ := hcond
  have c1 := Nat.eq_of_beq_eq_true c1
  have c2 := Nat.le_of_ble_eq_true c2
  have c3 := Nat.le_of_ble_eq_true c3
  have hd : d < st.n := Nat.le_of_ble_eq_true c4
  have hT' : P.underlying T = some (.slice e) := TabOk.ty T _ hT
  have hi : P.info? e = some i := (TabOk.all (P := P) e i d' hfe).1
  have hbound : (n + m) * i.bytes ≤ 140737488351232 := hp _ (List.mem_singleton.2 rfl)
  have hnm : n + m ≤ (n + m) * i.bytes := Nat.le_mul_of_pos_right _ (by omega)
  -- the row that is appended to
  have hsrc : ∃ xs : List Value, w.ownsRow W.heap.size e i.size u n xs ∧ (∀ k, k < n → (f k).cells.length = i.size) ∧
      (∀ (k j : Nat) x v, k < n → (f k).cells[j]? = some x → xs[k * i.size + j]? = some v → RDen (NB N0 β st.bx st.ow) w x v) ∧ (∀ v ∈ xs, v.oneCell' = true) ∧
      (∀ b, u.ownBlock = some b → ∃ k, id = some k ∧ (findB st.ow k).isSome = true ∧ (β.r k).ownBlock = some b) := by
    unfold ownOf at hown
    split at hown
    · rename_i k
      split at hown
      · rename_i o ho
        split at hown
        · rename_i hc
          simp only [Option.some.injEq, Prod.mk.injEq] at hown
          obtain ⟨rfl, rfl, rfl⟩ := hown
          simp only [Bool.and_eq_true] at hc
          have e1 := Nat.eq_of_beq_eq_true hc.1
          have e2 := Nat.eq_of_beq_eq_true hc.2
          obtain ⟨xs, h1, h2, h3, h4⟩ := h.owns k o ho
          rw [e1, e2] at h1
          rw [e2] at h2 h3
          have hur : u = β.r k := by cases hu; rfl
          rw [hur]
          exact ⟨xs, h1, h2, h3, h4, fun b hb => ⟨k, rfl, by rw [ho]; rfl, hb⟩⟩
        · cases hown
      · cases hown
    · simp only [Option.some.injEq, Prod.mk.injEq] at hown
      obtain ⟨rfl, rfl, rfl⟩ := hown
      cases hu with
      | d hu => cases hu with
        | none => exact ⟨[], World.ownsRow_nil _ _ _ _, fun k hk => absurd hk (Nat.not_lt_zero k), fun k j x v hk => absurd hk (Nat.not_lt_zero k), fun v hv => (by cases hv), fun b hb => (by cases hb)⟩
    · cases hown
  obtain ⟨xs, o1, o2, o3, o4, o5⟩ := hsrc
  -- what is appended
  have hnew : ∃ (ad : Addr) (news : List Value), news.length = m * i.size ∧ (∀ v ∈ news, v.oneCell' = true) ∧ (∀ k, k < m → (g k).cells.length = i.size) ∧
      (∀ (k j : Nat) x y, k < m → (g k).cells[j]? = some x → news[k * i.size + j]? = some y → RDen (NB N0 β st.bx st.ow) w x y) ∧
      ((v = .slice none 0 0 ∧ m = 0) ∨ ∃ cap, v = .slice (some ad) m cap ∧ ∀ j y, news[j]? = some y → w.cell? (ad.add j) = some y) := by
    unfold moreOf at hmore
    split at hmore
    · split at hmore
      · rename_i hb
        obtain rfl := Nat.eq_of_beq_eq_true hb
        simp only [Option.some.injEq, Prod.mk.injEq] at hmore
        obtain ⟨hm1, hm2⟩ := hmore
        subst hm1; subst hm2
        rename_i s0 m g hb0
        cases hv with
        | d hv => cases hv with
          | nil => exact ⟨⟨0, 0, none⟩, [], by simp, fun v hv => (by cases hv), fun k hk => absurd hk (Nat.not_lt_zero k), fun k j x y hk => absurd hk (Nat.not_lt_zero k), .inl ⟨rfl, rfl⟩⟩
          | row _ _ _ b o cap c hcap hb' hN hsz hc ho hd =>
            have hidx : ∀ k j, j < i.size → (k * i.size + j) / i.size = k ∧ (k * i.size + j) % i.size = j := fun k j hj => by
              constructor
              · rw [Nat.add_comm, Nat.add_mul_div_right _ _ (by omega), Nat.div_eq_of_lt hj, Nat.zero_add]
              · rw [Nat.add_comm, Nat.add_mul_mod_self_right, Nat.mod_eq_of_lt hj]
            have hq : ∀ q, q < m * i.size → q / i.size < m ∧ q % i.size < i.size := fun q hq => ⟨Nat.div_lt_of_lt_mul (by rw [Nat.mul_comm]; exact hq), Nat.mod_lt _ (by omega)⟩
            refine ⟨⟨b, o, none⟩, (List.range (m * i.size)).map (fun q => c (q / i.size) (q % i.size)), by simp, fun v hv => ?_, hsz, fun k j x y hk hx hy => ?_, .inr ⟨cap, rfl, fun j y hy => ?_⟩⟩
            · obtain ⟨q, hqm, rfl⟩ := List.mem_map.1 hv
              obtain ⟨a1, a2⟩ := hq q (List.mem_range.1 hqm)
              exact ho _ _ a1 a2
            · have hj : j < i.size := by rw [← hsz k hk]; exact (List.getElem?_eq_some_iff.1 hx).1
              rw [List.getElem?_map] at hy
              cases hr : (List.range (m * i.size))[k * i.size + j]? with
              | none => rw [hr] at hy; cases hy
              | some q =>
                rw [hr] at hy
                have hqv : q = k * i.size + j := by
                  obtain ⟨hlt, hqe⟩ := List.getElem?_eq_some_iff.1 hr
                  rw [List.getElem_range] at hqe; exact hqe.symm
                simp only [Option.map_some, Option.some.injEq] at hy
                rw [hqv, (hidx k j hj).1, (hidx k j hj).2] at hy
                rw [← hy]
                exact hd k j x hk hx
            · rw [List.getElem?_map] at hy
              cases hr : (List.range (m * i.size))[j]? with
              | none => rw [hr] at hy; cases hy
              | some q =>
                rw [hr] at hy
                obtain ⟨hlt, hqe⟩ := List.getElem?_eq_some_iff.1 hr
                rw [List.getElem_range] at hqe
                subst hqe
                simp only [Option.map_some, Option.some.injEq] at hy
                rw [← hy, add_at]
                have hlt : j < m * i.size := by simpa using hlt
                obtain ⟨a1, a2⟩ := hq j hlt
                have := hc _ _ a1 a2
                rw [Nat.div_add_mod'] at this
                exact this
      · cases hmore
    · cases hmore
  obtain ⟨ad, news, n1, n2, n3, n4, n5⟩ := hnew
  -- the run
  have hrun : ∃ r w', (Builtin.append_ #[T, T] ty #[u, v]).run P w = .ok r w' ∧ w'.ownsRow W.heap.size e i.size r (n + m) (xs ++ news) ∧ w.grownBy w' u.ownBlock ∧ (r.ownBlock = u.ownBlock ∨ r.ownBlock = some w.heap.size) := by
    rcases n5 with ⟨rfl, rfl⟩ | ⟨cap, rfl, hcells⟩
    · have hn0 : news = [] := List.eq_nil_of_length_eq_zero (by simpa using n1)
      subst hn0
      exact ⟨u, w, run_append_owned_none (P := P) (w := w) W.heap.size T ty e i i.size hT' hi u n xs o1, by simpa using o1, ⟨rfl, rfl, rfl, Nat.le_refl _, fun _ _ _ => rfl⟩, .inl rfl⟩
    · obtain ⟨r, w', r1, r2, r3, _, r5⟩ := run_append_own_at (P := P) w W.heap.size T ty e i z i.size i.bytes hT' hi hz rfl rfl c1 (by omega) u n xs o1 ad m cap news n1 hcells n2 (by unfold maxLen; omega) (by omega) h.keeps.size
      exact ⟨r, w', r1, r2, r3, r5⟩
  obtain ⟨r, w', r1, r2, r3, r4⟩ := hrun
  refine ⟨r, w', updR β st.nx r, r1, ?_⟩
  have hNu : ∀ b, u.ownBlock = some b → NB N0 β st.bx st.ow b := fun b hb => by
    obtain ⟨k, _, k2, k3⟩ := o5 b hb
    exact .inr (.inr ⟨k, k2, k3⟩)
  have hsame : Same (NB N0 β st.bx st.ow) w w' := ⟨r3.size, fun k hk hN => r3.block k hk (fun e => hN (hNu k e.symm))⟩
  have hfo : ∀ j, findB ((st.nx, (⟨e, i.size, n + m, joinF n f g⟩ : Own)) :: takeO st.ow id) j = if j = st.nx then some ⟨e, i.size, n + m, joinF n f g⟩ else findB (takeO st.ow id) j := fun j => findB_cons j
  have hnx : ∀ j, (findB st.ow j).isSome = true → j ≠ st.nx := fun j hj e => by have := h.onx j hj; omega
  have hrj : ∀ j, j ≠ st.nx → (updR β st.nx r).r j = β.r j := fun j hj => by simp [updR, hj]
  have hrn : (updR β st.nx r).r st.nx = r := by simp [updR]
  have hNB : ∀ b, b < w.heap.size → NB N0 (updR β st.nx r) st.bx ((st.nx, (⟨e, i.size, n + m, joinF n f g⟩ : Own)) :: takeO st.ow id) b → NB N0 β st.bx st.ow b := by
    rintro b hlt (h0 | ⟨j, hj, hb⟩ | ⟨j, hj, hb⟩)
    · exact .inl h0
    · exact .inr (.inl ⟨j, hj, hb⟩)
    · rw [hfo] at hj
      by_cases ej : j = st.nx
      · rw [ej, hrn] at hb
        rcases r4 with r4 | r4
        · exact hNu b (by rw [← r4]; exact hb)
        · rw [r4] at hb; have := Option.some.inj hb; omega
      · rw [if_neg ej] at hj
        rw [hrj j ej] at hb
        exact .inr (.inr ⟨j, (takeO_isSome hj).1, hb⟩)
  have hkeepO : ∀ j b, (findB (takeO st.ow id) j).isSome = true → (β.r j).ownBlock = some b → w'.heap[b]? = w.heap[b]? := fun j b hj hb => by
    obtain ⟨j1, j2⟩ := takeO_isSome hj
    refine r3.block b (h.owns.lt j1 hb).2 (fun e => ?_)
    obtain ⟨k, k1, k2, k3⟩ := o5 b e.symm
    exact j2 (by rw [k1, h.odist j k b j1 k2 hb k3])
  refine ⟨⟨?_, ?_, ?_, ?_, ?_⟩, by rw [put_size]; exact h.size, by rw [put_defers']; exact h.defers, fun s' y hy => ?_, fun s' g' p' y hy => ?_, ?_, h.inj, h.own, h.outer, ?_, ?_, ?_, ?_⟩
  · exact r3.os.trans h.keeps.os
  · exact r3.tape.trans h.keeps.tape
  · exact r3.output.trans h.keeps.output
  · exact Nat.le_trans h.keeps.size r3.size
  · intro k hk hF
    rw [r3.block k (Nat.lt_of_lt_of_le hk h.keeps.size) (fun e => ?_)]
    · exact h.keeps.block k hk hF
    · have := (o1.lt k e.symm).1; omega
  · simp only [findB_cons] at hy
    split at hy
    · rename_i e'
      simp only [Option.some.injEq] at hy; subst hy; subst e'
      rw [tv_put_same (by rw [h.size]; exact hd)]
      have := SDen.own (β := updR β st.nx r) (N := NB N0 (updR β st.nx r) st.bx ((st.nx, (⟨e, i.size, n + m, joinF n f g⟩ : Own)) :: takeO st.ow id)) (w := w') st.nx
      rwa [hrn] at this
    · rename_i e'
      rw [tv_put_other e']
      exact (SDen.turnO (h.slots s' y hy) (noO_mem c7 (findB_mem hy))).move hsame hNB
  · have hne : s' ≠ d := fun e' => by
      have hy' : findB st.gl s' = some (g', p', y) := hy
      rw [e', isNone_eq c5] at hy'; cases hy'
    have hgn := c8
    exact (((h.guards s' g' p' y hy).turnO (by simpa [SV.namesO] using noOG_mem c8 (findB_mem hy))).move hsame hNB).turn (tv_put_other hne) (fun g2 p2 z e2 => tv_put_other (by
      obtain ⟨rfl, _, _⟩ := SV.grd.inj e2
      exact noGuard_ok c6 (findB_mem hy)))
  · intro j T' cs hf
    obtain ⟨us, u1, u2, u3⟩ := h.boxes j T' cs hf
    have hne : some (β.b j) ≠ u.ownBlock := fun e' => by
      obtain ⟨k, _, k2, k3⟩ := o5 _ e'.symm
      exact h.obox k j k2 (by rw [hf]; rfl) k3
    exact ⟨us, by show w'.heap[β.b j]? = _; rw [r3.block _ (Array.getElem?_eq_some_iff.1 u1).1 hne]; exact u1, ⟨u2.1, fun k x v hx hv => ((u2.2 k x v hx hv).turnO (noOC_mem (noOB_find c9 (findB_mem hf)) (List.mem_of_getElem? hx))).move hsame hNB⟩, u3⟩
  · intro j o hj
    rw [hfo] at hj
    by_cases ej : j = st.nx
    · rw [if_pos ej] at hj
      obtain rfl := Option.some.inj hj
      rw [ej, hrn]
      have hk0 : ∀ k, k < (⟨e, i.size, n + m, joinF n f g⟩ : Own).n → k < n + m := fun _ h => h
      refine ⟨xs ++ news, r2, fun k hk => ?_, fun k j x y hk hx (hy : (xs ++ news)[k * i.size + j]? = some y) => ?_, fun y hy => ?_⟩
      · simp only [joinF]
        cases hb : Nat.blt k n with
        | true => exact o2 k (Nat.le_of_ble_eq_true hb)
        | false =>
          have hb' : ¬ k < n := fun hlt => by rw [show Nat.blt k n = true from Nat.ble_eq_true_of_le hlt] at hb; cases hb
          exact n3 (k - n) (by simp at hk; omega)
      · simp only [joinF] at hx
        have hlen : xs.length = n * i.size := o1.1
        replace hk := hk0 k hk
        cases hb : Nat.blt k n with
        | true =>
          have hlt : k < n := Nat.le_of_ble_eq_true hb
          rw [hb] at hx
          simp only [cond_true] at hx
          have hj : j < i.size := by rw [← o2 k hlt]; exact (List.getElem?_eq_some_iff.1 hx).1
          have hin : k * i.size + j < n * i.size := by
            have : (k + 1) * i.size ≤ n * i.size := Nat.mul_le_mul_right _ hlt
            rw [Nat.add_mul] at this; omega
          rw [List.getElem?_append_left (by omega)] at hy
          exact (o3 k j x y hlt hx hy).move hsame hNB
        | false =>
          have hb' : ¬ k < n := fun hlt => by rw [show Nat.blt k n = true from Nat.ble_eq_true_of_le hlt] at hb; cases hb
          rw [hb] at hx
          simp only [cond_false] at hx
          have hk' : k - n < m := by omega
          have hin : n * i.size ≤ k * i.size := Nat.mul_le_mul_right _ (by omega)
          rw [List.getElem?_append_right (by omega), hlen] at hy
          have : k * i.size + j - n * i.size = (k - n) * i.size + j := by rw [Nat.sub_mul]; omega
          simp only [this] at hy
          exact (n4 (k - n) j x y hk' hx hy).move hsame hNB
      · rcases List.mem_append.1 hy with hy | hy
        · exact o4 y hy
        · exact n2 y hy
    · rw [if_neg ej] at hj
      rw [hrj j ej]
      have hj' := takeO_find hj
      obtain ⟨ys, y1, y2, y3, y4⟩ := h.owns j o hj'
      exact ⟨ys, ownsRow_turn y1 (fun b hb => hkeepO j b (by rw [hj]; rfl) hb), y2, fun k q x v hk hx hv => (y3 k q x v hk hx hv).move hsame hNB, y4⟩
  · intro j k b hj hk hbj hbk
    rw [hfo] at hj hk
    have fresh : ∀ q, q ≠ st.nx → (findB (takeO st.ow id) q).isSome = true → (β.r q).ownBlock = some b → r.ownBlock ≠ some b := fun q hq hqs hqb hrb => by
      obtain ⟨q1, q2⟩ := takeO_isSome hqs
      rcases r4 with r4 | r4
      · obtain ⟨k, k1, k2, k3⟩ := o5 b (by rw [← r4]; exact hrb)
        exact q2 (by rw [k1, h.odist q k b q1 k2 hqb k3])
      · rw [r4] at hrb
        have := Option.some.inj hrb
        have := (h.owns.lt q1 hqb).2
        omega
    by_cases ej : j = st.nx <;> by_cases ek : k = st.nx
    · rw [ej, ek]
    · rw [if_neg ek] at hk
      rw [ej, hrn] at hbj; rw [hrj k ek] at hbk
      exact absurd hbj (fresh k ek hk hbk)
    · rw [if_neg ej] at hj
      rw [ek, hrn] at hbk; rw [hrj j ej] at hbj
      exact absurd hbk (fresh j ej hj hbj)
    · rw [if_neg ej] at hj; rw [if_neg ek] at hk
      rw [hrj j ej] at hbj; rw [hrj k ek] at hbk
      exact h.odist j k b (takeO_isSome hj).1 (takeO_isSome hk).1 hbj hbk
  · intro j k hj hk hb
    rw [hfo] at hj
    have hb : ((updR β st.nx r).r j).ownBlock = some (β.b k) := hb
    by_cases ej : j = st.nx
    · rw [ej, hrn] at hb
      rcases r4 with r4 | r4
      · obtain ⟨q, q1, q2, q3⟩ := o5 _ (by rw [← r4]; exact hb)
        exact h.obox q k q2 hk q3
      · rw [r4] at hb
        have := Option.some.inj hb
        have := h.NB_lt (β.b k) (.inr (.inl ⟨k, hk, rfl⟩))
        omega
    · rw [if_neg ej] at hj
      rw [hrj j ej] at hb
      exact h.obox j k (takeO_isSome hj).1 hk hb
  · intro j hj
    rw [hfo] at hj
    show j < st.nx + 1
    by_cases ej : j = st.nx
    · omega
    · rw [if_neg ej] at hj
      have := h.onx j (takeO_isSome hj).1
      omega


/-- A row that the call owns, seen as a plain row. -/
theorem own_row {base : Nat} {N N' : Nat → Prop} {ow : List (Nat × Own)} (h : OwnsOk base β N w ow) (hN : ∀ b, b < w.heap.size → N' b → N b) {i : Nat} {o : Own} (hi : findB ow i = some o)
    (hn : ∀ b, (β.r i).ownBlock = some b → ¬ N' b) : RDen N' w (.row o.sz o.n o.f) (β.r i) := by
  obtain ⟨xs, ⟨hl, h1⟩, h2, h3, h4⟩ := h i o hi
  rcases h1 with ⟨hv, hn0⟩ | ⟨g, cap, cur, hv, hg, hh, hcap, _, hcs, hxs⟩
  · rw [hv, hn0]; exact .nil _ _
  · have hgs : g < w.heap.size := (Array.getElem?_eq_some_iff.1 hh).1
    have hin : ∀ k j, k < o.n → j < o.sz → k * o.sz + j < o.n * o.sz := fun k j hk hj => by
      have : (k + 1) * o.sz ≤ o.n * o.sz := Nat.mul_le_mul_right _ hk
      rw [Nat.add_mul] at this; omega
    rw [hv]
    refine .row o.sz o.n o.f g 0 cap (fun k j => xs.getD (k * o.sz + j) undef) hcap hgs (hn g (by rw [hv]; rfl)) h2 (fun k j hk hj => ?_) (fun k j hk hj => ?_) (fun k j x hk hx => ?_)
    · have hlt := hin k j hk hj
      have hx : xs[k * o.sz + j]? = some (xs.getD (k * o.sz + j) undef) := by
        rw [List.getD_eq_getElem?_getD, List.getElem?_eq_getElem (by omega)]; rfl
      rw [← hx, ← hxs, List.getElem?_take, if_pos hlt, Array.getElem?_toList]
      unfold World.cell?
      rw [hh]
      simp
    · have hlt := hin k j hk hj
      refine h4 _ ?_
      rw [List.getD_eq_getElem?_getD, List.getElem?_eq_getElem (by omega)]
      exact List.getElem_mem _
    · have hj : j < o.sz := by rw [← h2 k hk]; exact (List.getElem?_eq_some_iff.1 hx).1
      have hlt := hin k j hk hj
      refine (h3 k j x _ hk hx ?_).less hN
      rw [List.getD_eq_getElem?_getD, List.getElem?_eq_getElem (by omega)]; rfl

/-- The rows that the call owns become plain rows. -/
def frz (ow : List (Nat × Own)) : SV → SV
  | .own i => match findB ow i with
    | some o => .d (.row o.sz o.n o.f)
    | none => .own i
  | .d x => .d x
  | .loc i o => .loc i o
  | .elem sz n f i o => .elem sz n f i o
  | .tup l => .tup (frzL ow l)
  | .grd g p x => .grd g p (frz ow x)
where
  frzL (ow : List (Nat × Own)) : List SV → List SV
    | [] => []
    | x :: l => frz ow x :: frzL ow l

theorem frzL_get {ow : List (Nat × Own)} : ∀ {l : List SV} {j : Nat} {y : SV}, (frz.frzL ow l)[j]? = some y → ∃ x, l[j]? = some x ∧ y = frz ow x
  | [], j, y, h => by simp [frz.frzL] at h
  | x :: l, j, y, h => by
    cases j with
    | zero => simp [frz.frzL] at h; exact ⟨x, by simp, h.symm⟩
    | succ j => obtain ⟨x', h1, h2⟩ := frzL_get (l := l) (j := j) (by simpa [frz.frzL] using h); exact ⟨x', by simpa using h1, h2⟩
theorem frzL_len {ow : List (Nat × Own)} : ∀ (l : List SV), (frz.frzL ow l).length = l.length
  | [] => rfl
  | x :: l => by simp [frz.frzL, frzL_len l]

def frzS (ow : List (Nat × Own)) : List (Nat × SV) → List (Nat × SV)
  | [] => []
  | (k, x) :: l => (k, frz ow x) :: frzS ow l
theorem findB_frzS {ow : List (Nat × Own)} {s : Nat} : ∀ {l : List (Nat × SV)}, findB (frzS ow l) s = (findB l s).map (frz ow)
  | [] => rfl
  | (k, x) :: l => by
    simp only [frzS, findB_cons, findB_frzS (l := l)]
    split <;> rfl
def frzG (ow : List (Nat × Own)) : List (Nat × Nat × Bool × SV) → List (Nat × Nat × Bool × SV)
  | [] => []
  | (k, g, p, x) :: l => (k, g, p, frz ow x) :: frzG ow l
theorem findB_frzG {ow : List (Nat × Own)} {s : Nat} : ∀ {l : List (Nat × Nat × Bool × SV)}, findB (frzG ow l) s = (findB l s).map (fun (g, p, x) => (g, p, frz ow x))
  | [] => rfl
  | (k, g, p, x) :: l => by
    simp only [frzG, findB_cons, findB_frzG (l := l)]
    split <;> rfl

def frzB (ow : List (Nat × Own)) : List (Nat × TypeId × List SV) → List (Nat × TypeId × List SV)
  | [] => []
  | (k, T, l) :: r => (k, T, frz.frzL ow l) :: frzB ow r
theorem findB_frzB {ow : List (Nat × Own)} {s : Nat} : ∀ {l : List (Nat × TypeId × List SV)}, findB (frzB ow l) s = (findB l s).map (fun (T, l) => (T, frz.frzL ow l))
  | [] => rfl
  | (k, T, x) :: l => by
    simp only [frzB, findB_cons, findB_frzB (l := l)]
    split <;> rfl
def St.freeze (st : St) : St :=
  match st.ow with
  | [] => st
  | ow => ⟨st.n, frzS ow st.sl, frzG ow st.gl, frzB ow st.bx, [], st.nx⟩

theorem SDen.frz {base : Nat} {N N' : Nat → Prop} {ow : List (Nat × Own)} (h : OwnsOk base β N w ow) (hN : ∀ b, b < w.heap.size → N' b → N b)
    (hn : ∀ i b, (findB ow i).isSome = true → (β.r i).ownBlock = some b → ¬ N' b) {x : SV} {v : Value} (hx : SDen β N w x v) : SDen β N' w (frz ow x) v := by
  induction hx with
  | d h => exact .d (h.less hN)
  | loc i off => exact .loc i off
  | own i =>
    simp only [Sim.frz]
    cases hf : findB ow i with
    | none => exact .own i
    | some o => exact .d (own_row h hN hf (fun b hb => hn i b (by rw [hf]; rfl) hb))
  | elem sz n f i off b o c hi hb hN' hsz hc ho hd => exact (SDen.elem sz n f i off b o c hi hb hN' hsz hc ho hd).less hN
  | tup l vs hl hd ih =>
    refine .tup _ vs (by rw [frzL_len]; exact hl) fun j x v hx hv => ?_
    obtain ⟨x', h1, rfl⟩ := frzL_get hx
    exact ih j x' v h1 hv

theorem SlotOk.frz {base : Nat} {N N' : Nat → Prop} {ow : List (Nat × Own)} (h : OwnsOk base β N w ow) (hN : ∀ b, b < w.heap.size → N' b → N b)
    (hn : ∀ i b, (findB ow i).isSome = true → (β.r i).ownBlock = some b → ¬ N' b) {s g : Nat} {p : Bool} {x : SV} (hx : SlotOk β N a w s (.grd g p x)) : SlotOk β N' a w s (.grd g p (Sim.frz ow x)) :=
  ⟨fun e => (hx.1 e).frz h hN hn, hx.2⟩

theorem Rel.freeze (h : Rel W N0 F st β a w) : Rel W N0 F st.freeze β a w := by
  unfold St.freeze
  split
  · exact h
  · rename_i ow hne
    have hbi : ∀ i, (findB (frzB st.ow st.bx) i).isSome = (findB st.bx i).isSome := fun i => by rw [findB_frzB]; cases findB st.bx i <;> rfl
    have hN : ∀ b, b < w.heap.size → NB N0 β (frzB st.ow st.bx) [] b → NB N0 β st.bx st.ow b := by
      rintro b _ (h0 | ⟨i, hi, hb⟩ | ⟨i, hi, _⟩)
      · exact .inl h0
      · exact .inr (.inl ⟨i, by rw [hbi] at hi; exact hi, hb⟩)
      · cases hi
    have hn : ∀ i b, (findB st.ow i).isSome = true → (β.r i).ownBlock = some b → ¬ NB N0 β (frzB st.ow st.bx) [] b := by
      rintro i b hi hb (h0 | ⟨j, hj, rfl⟩ | ⟨j, hj, _⟩)
      · have := (h.outer b h0).1
        have := (h.owns.lt hi hb).1
        omega
      · rw [hbi] at hj
        exact h.obox i j hi hj hb
      · cases hj
    refine ⟨h.keeps, h.size, h.defers, fun s x hx => ?_, fun s g p x hx => ?_, ?_, fun i j hi hj => ?_, fun i hi => ?_, h.outer, fun i o hi => (by cases hi), fun i j b hi => (by cases hi), fun i j hi => (by cases hi), fun i hi => (by cases hi)⟩
    · simp only [findB_frzS] at hx
      cases hf : findB st.sl s with
      | none => rw [hf] at hx; cases hx
      | some y =>
        rw [hf] at hx
        simp only [Option.map_some, Option.some.injEq] at hx; subst hx
        exact (h.slots s y hf).frz h.owns hN hn
    · simp only [findB_frzG] at hx
      cases hf : findB st.gl s with
      | none => rw [hf] at hx; cases hx
      | some y =>
        rw [hf] at hx
        obtain ⟨g', p', y⟩ := y
        simp only [Option.map_some, Option.some.injEq, Prod.mk.injEq] at hx
        obtain ⟨rfl, rfl, rfl⟩ := hx
        exact (h.guards s g' p' y hf).frz h.owns hN hn
    · intro i T cs hf
      simp only [findB_frzB] at hf
      cases hf' : findB st.bx i with
      | none => rw [hf'] at hf; cases hf
      | some y =>
        rw [hf'] at hf
        obtain ⟨T', y⟩ := y
        simp only [Option.map_some, Option.some.injEq, Prod.mk.injEq] at hf
        obtain ⟨rfl, rfl⟩ := hf
        obtain ⟨vs, h1, h2, h3⟩ := h.boxes i T' y hf'
        refine ⟨vs, h1, ⟨by rw [frzL_len]; exact h2.1, fun k x v hx hv => ?_⟩, h3⟩
        obtain ⟨x', e1, rfl⟩ := frzL_get hx
        exact (h2.2 k x' v e1 hv).frz h.owns hN hn
    · simp only [hbi] at hi hj
      exact h.inj i j hi hj
    · simp only [hbi] at hi
      exact h.own i hi

/-- Boxes that nobody will write become data. -/
def refOf (bx : List (Nat × TypeId × List SV)) (i : Nat) : Option (List RV) :=
  match findB bx i with
  | some (_, cs) => unDs cs
  | none => none
def frzX (bx : List (Nat × TypeId × List SV)) : SV → SV
  | .loc i off => match refOf bx i with
    | some l => match off with
      | 0 => .d (.ref l)
      | off => .elem l.length 1 (fun _ => .agg l) 0 off
    | none => .loc i off
  | .d x => .d x
  | .own i => .own i
  | .elem sz n f i o => .elem sz n f i o
  | .tup l => .tup (frzXL bx l)
  | .grd g p x => .grd g p (frzX bx x)
where
  frzXL (bx : List (Nat × TypeId × List SV)) : List SV → List SV
    | [] => []
    | x :: l => frzX bx x :: frzXL bx l
theorem frzXL_get {bx : List (Nat × TypeId × List SV)} : ∀ {l : List SV} {j : Nat} {y : SV}, (frzX.frzXL bx l)[j]? = some y → ∃ x, l[j]? = some x ∧ y = frzX bx x
  | [], j, y, h => by simp [frzX.frzXL] at h
  | x :: l, j, y, h => by
    cases j with
    | zero => simp [frzX.frzXL] at h; exact ⟨x, by simp, h.symm⟩
    | succ j => obtain ⟨x', h1, h2⟩ := frzXL_get (l := l) (j := j) (by simpa [frzX.frzXL] using h); exact ⟨x', by simpa using h1, h2⟩
theorem frzXL_len {bx : List (Nat × TypeId × List SV)} : ∀ (l : List SV), (frzX.frzXL bx l).length = l.length
  | [] => rfl
  | x :: l => by simp [frzX.frzXL, frzXL_len l]
def frzXS (bx : List (Nat × TypeId × List SV)) : List (Nat × SV) → List (Nat × SV)
  | [] => []
  | (k, x) :: l => (k, frzX bx x) :: frzXS bx l
theorem findB_frzXS {bx : List (Nat × TypeId × List SV)} {s : Nat} : ∀ {l : List (Nat × SV)}, findB (frzXS bx l) s = (findB l s).map (frzX bx)
  | [] => rfl
  | (k, x) :: l => by
    simp only [frzXS, findB_cons, findB_frzXS (l := l)]
    split <;> rfl
def frzXG (bx : List (Nat × TypeId × List SV)) : List (Nat × Nat × Bool × SV) → List (Nat × Nat × Bool × SV)
  | [] => []
  | (k, g, p, x) :: l => (k, g, p, frzX bx x) :: frzXG bx l
theorem findB_frzXG {bx : List (Nat × TypeId × List SV)} {s : Nat} : ∀ {l : List (Nat × Nat × Bool × SV)}, findB (frzXG bx l) s = (findB l s).map (fun (g, p, x) => (g, p, frzX bx x))
  | [] => rfl
  | (k, g, p, x) :: l => by
    simp only [frzXG, findB_cons, findB_frzXG (l := l)]
    split <;> rfl
def St.freezeX (st : St) : St :=
  match st.ow with
  | [] => ⟨st.n, frzXS st.bx st.sl, frzXG st.bx st.gl, [], [], st.nx⟩
  | _ => st

theorem SDen.frzX {N N' : Nat → Prop} {bx : List (Nat × TypeId × List SV)} (hb : BoxOk β N w bx) (hN : ∀ b, b < w.heap.size → N' b → N b) (hn : ∀ i, (findB bx i).isSome = true → ¬ N' (β.b i)) {x : SV} {v : Value} (hx : SDen β N w x v) : SDen β N' w (frzX bx x) v := by
  induction hx with
  | d h => exact .d (h.less hN)
  | own i => exact .own i
  | loc i off =>
    simp only [Sim.frzX]
    cases hr : refOf bx i with
    | none => exact .loc i off
    | some l =>
      unfold refOf at hr
      split at hr
      · rename_i T cs hf
        obtain ⟨vs, h1, h2, h3⟩ := hb i T cs hf
        obtain ⟨u1, u2⟩ := unDs_ok hr
        have hlt : β.b i < w.heap.size := (Array.getElem?_eq_some_iff.1 h1).1
        have hc : ∀ j, j < l.length → w.cell? ⟨β.b i, j, none⟩ = some (vs.getD j undef) := fun j hj => by
          have : j < vs.length := by rw [h2.1]; omega
          simp [World.cell?, h1, List.getD, this]
        have ho : ∀ j, j < l.length → (vs.getD j undef).oneCell' = true := fun j hj => by
          have : j < vs.length := by rw [h2.1]; omega
          rw [List.getD_eq_getElem?_getD, List.getElem?_eq_getElem this]
          exact h3 _ (List.getElem_mem _)
        have hd : ∀ (j : Nat) x, l[j]? = some x → RDen N' w x (vs.getD j undef) := fun j x hx => by
          have hj : j < l.length := (List.getElem?_eq_some_iff.1 hx).1
          have hv : j < vs.length := by rw [h2.1]; omega
          have := h2.2 j _ _ (u2 j x hx) (List.getElem?_eq_getElem hv)
          rw [List.getD_eq_getElem?_getD, List.getElem?_eq_getElem hv]
          cases this with | d h => exact h.less hN
        have hni := hn i (by rw [hf]; rfl)
        cases off with
        | zero => exact .d (.ref l _ _ hlt hni hc ho hd)
        | succ off =>
          have := SDen.elem (β := β) (N := N') (w := w) l.length 1 (fun _ => .agg l) 0 (off + 1) (β.b i) 0 (fun _ j => vs.getD j undef) Nat.zero_lt_one hlt hni (fun _ _ => rfl)
            (fun k j hk hj => by rw [show 0 + (k * l.length + j) = j by rw [show k = 0 by omega]; omega]; exact hc j hj) (fun k j _ hj => ho j hj) (fun k j x _ hx => hd j x hx)
          simpa using this
      · cases hr
  | elem sz n f i off b o c hi hb' hN' hsz hc ho hd => exact (SDen.elem sz n f i off b o c hi hb' hN' hsz hc ho hd).less hN
  | tup l vs hl hd ih =>
    refine .tup _ vs (by rw [frzXL_len]; exact hl) fun j x v hx hv => ?_
    obtain ⟨x', h1, rfl⟩ := frzXL_get hx
    exact ih j x' v h1 hv

theorem Rel.freezeX (h : Rel W N0 F st β a w) : Rel W N0 F st.freezeX β a w := by
  unfold St.freezeX
  split
  · rename_i how
    have hN : ∀ b, b < w.heap.size → NB N0 β [] [] b → NB N0 β st.bx st.ow b := by
      rintro b _ (h0 | ⟨i, hi, _⟩ | ⟨i, hi, _⟩)
      · exact .inl h0
      · cases hi
      · cases hi
    have hn : ∀ i, (findB st.bx i).isSome = true → ¬ NB N0 β [] [] (β.b i) := by
      rintro i hi (h0 | ⟨j, hj, _⟩ | ⟨j, hj, _⟩)
      · have h1 := h.outer _ h0
        rcases h.own i hi with h2 | h2
        · omega
        · exact h1.2 h2
      · cases hj
      · cases hj
    refine ⟨h.keeps, h.size, h.defers, fun s x hx => ?_, fun s g p x hx => ?_, fun i T cs hi => (by cases hi), fun i j hi => (by cases hi), fun i hi => (by cases hi), h.outer, fun i o hi => (by cases hi), fun i j b hi => (by cases hi), fun i j hi => (by cases hi), fun i hi => (by cases hi)⟩
    · simp only [findB_frzXS] at hx
      cases hf : findB st.sl s with
      | none => rw [hf] at hx; cases hx
      | some y =>
        rw [hf] at hx
        simp only [Option.map_some, Option.some.injEq] at hx; subst hx
        exact (h.slots s y hf).frzX h.boxes hN hn
    · simp only [findB_frzXG] at hx
      cases hf : findB st.gl s with
      | none => rw [hf] at hx; cases hx
      | some y =>
        rw [hf] at hx
        obtain ⟨g', p', y⟩ := y
        simp only [Option.map_some, Option.some.injEq, Prod.mk.injEq] at hx
        obtain ⟨rfl, rfl, rfl⟩ := hx
        have := h.guards s g' p' y hf
        exact ⟨fun e => (this.1 e).frzX h.boxes hN hn, this.2⟩
  · exact h

end
end Go.Sim

namespace Go.Sim
open Go.RowKit (Below)

/-- The guards that stand behind slot g being p, and their facts. -/
def chain (find : Nat → Option SV) (g : Nat) (p : Bool) : Option (List (Nat × Bool) × List Prop) :=
  match find g with
  | some (.d (.val (.bool b))) => some ([(g, p)], [b = p])
  | some (.grd h q (.d (.val (.bool b)))) => some ([(g, p), (h, q)], [b = p])
  | _ => none

def dstOf (ops : Array Oper) (j : Nat) : Option Nat := (ops[j]?).bind (·.dst)

/-- What an operation's guard says: no guard; or the guards that hold where it runs, and the guard's slot. -/
def guardOf (find : Nat → Option SV) (ops : Array Oper) (g : Option (Nat × Bool)) : Option (List (Nat × Bool) × List Prop × Option (Nat × Bool)) :=
  match g with
  | none => some ([], [], none)
  | some (j, p) => match dstOf ops j with
    | some s => match chain find s p with
      | some (l, ps) => some (l, ps, some (s, p))
      | none => none
    | none => none

def imps : List Prop → Prop → Prop
  | [], q => q
  | p :: l, q => p → imps l q
theorem imps_of {q : Prop} : ∀ {l : List Prop}, imps l q → (∀ p ∈ l, p) → q
  | [], h, _ => h
  | p :: _, h, hl => imps_of (h (hl p List.mem_cons_self)) (fun r hr => hl r (List.mem_cons_of_mem _ hr))

def wrapG : Option (Nat × Bool) → SV → SV
  | none, x => x
  | some (g, p), x => .grd g p x

/-- An operation that leaves all boxes as they are: conditions and the entry of its slot. -/
def stepV (τ : Tab) (sp : Spec) (ops : Array Oper) (bx : List (Nat × TypeId × List SV)) (find : Nat → Option SV) (o : Oper) : Res :=
  match guardOf find ops o.guard with
  | some (G, hs, g) => match evOp τ sp bx (fun G' => lookF find (G' ++ G)) o.op with
    | some (ps, x) => match isG x with
      | false => some (ps.map (imps hs), wrapG g x)
      | true => none
    | none => match g with
      | some _ => some ([imps hs False], wrapG g (.d (.val (.bool false))))
      | none => none
  | none => none

/-- An operation that makes or writes a box. -/
def noPs : Option St → Option (List Prop × St)
  | some st => some ([], st)
  | none => none

/-- The cells of what is stored. -/
def cellsSV (ow : List (Nat × Own)) : SV → Option (List SV)
  | .d r => match (oneR r || isAggR r) && allOne r.cells with
    | true => some (r.cells.map .d)
    | false => none
  | .own j => match findB ow j with
    | some _ => some [.own j]
    | none => none
  | _ => none
theorem cellsSV_ok {base : Nat} {N : Nat → Prop} {β : Envr} {w : World} {ow : List (Nat × Own)} (h : OwnsOk base β N w ow) {x : SV} {cs : List SV} (hc : cellsSV ow x = some cs) {v : Value} (hx : SDen β N w x v) :
    CellsS β N w cs v.cells.toList ∧ ∀ u ∈ v.cells.toList, u.oneCell' = true := by
  unfold cellsSV at hc
  split at hc
  · split at hc
    · rename_i r hcond
      simp only [Option.some.injEq] at hc; subst hc
      simp only [Bool.and_eq_true] at hcond
      cases hx with
      | d hx =>
        have := Cells.of_den hx hcond.1
        exact ⟨CellsS.of_cells this, this.oneCell hcond.2⟩
    · cases hc
  · rename_i j
    split at hc
    · rename_i o ho
      simp only [Option.some.injEq] at hc; subst hc
      obtain ⟨xs, ⟨_, h1⟩, _⟩ := h j o ho
      have hv : v = β.r j := by cases hx; rfl
      have hone : v.cells = #[v] ∧ v.oneCell' = true := by
        rcases h1 with ⟨e, _⟩ | ⟨g, cap, cur, e, _⟩
        · rw [hv, e]; exact ⟨rfl, rfl⟩
        · rw [hv, e]; exact ⟨rfl, rfl⟩
      rw [hone.1]
      refine ⟨⟨rfl, fun k y u hy hu => ?_⟩, fun u hu => ?_⟩
      · cases k with
        | zero => simp at hy hu; subst hy; subst hu; exact hx
        | succ k => simp at hy
      · have : u = v := by simpa using hu
        rw [this]; exact hone.2
    · cases hc
  · cases hc

def eff (τ : Tab) (st : St) (o : Oper) : Option (List Prop × St) :=
  match o.op, o.dst with
  | .box T v, some d => match st.look [] v with
    | some (.d r) => match oneR r || isAggR r with
      | true => noPs (st.newBox d T r.cells)
      | false => none
    | _ => none
  | .alloc T, some d => match zeroOf τ T with
    | some r => match oneR r || isAggR r with
      | true => noPs (st.newBox d T r.cells)
      | false => none
    | none => none
  | .store T x v, none => match st.look [] x, st.look [] v with
    | some (.loc i off), some y => match TySize τ T, cellsSV st.ow y with
      | some s, some cs => match Nat.beq s cs.length with
        | true => noPs (st.store i off cs)
        | false => none
      | _, _ => none
    | _, _ => none
  | .call c, some d => match c.callee, c.args.toList, c.argTypes.toList with
    | .builtin .append, [x, y], [T, T'] => match Nat.beq T T', st.look [] x, st.look [] y with
      | true, some s, some t => st.append τ d T s t
      | _, _, _ => none
    | _, _, _ => none
  | _, _ => none

def isEff : Op → Bool
  | .box _ _ => true
  | .alloc _ => true
  | .store _ _ _ => true
  | .call c => match c.callee with
    | .builtin .append => true
    | _ => false
  | _ => false

def stepOp (τ : Tab) (sp : Spec) (ops : Array Oper) (st : St) (o : Oper) : Option (List Prop × St) :=
  match isEff o.op with
  | true => match o.guard with
    | none => eff τ st o
    | some _ => none
  | false => match stepV τ sp ops st.bx st.find o, o.dst with
    | some (ps, x), some d => match x with
      | .grd g p y => match st.putG d g p y with
        | some st' => some (ps, st')
        | none => none
      | y => match st.put d y with
        | some st' => some (ps, st')
        | none => none
    | _, _ => none

def conj : List Prop → Prop → Prop
  | [], q => q
  | p :: l, q => p ∧ conj l q
theorem conj_of {q : Prop} : ∀ {l : List Prop}, conj l q → (∀ p ∈ l, p) ∧ q
  | [], h => ⟨fun p hp => (by cases hp), h⟩
  | p :: l, h => by
    obtain ⟨a, b⟩ := conj_of h.2
    refine ⟨fun r hr => ?_, b⟩
    rcases List.mem_cons.1 hr with rfl | hr
    · exact h.1
    · exact a r hr

def vcOps (τ : Tab) (sp : Spec) (ops : Array Oper) : List Oper → St → (St → Prop) → Prop
  | [], st, K => K st
  | o :: l, st, K => match stepOp τ sp ops st o with
    | some (ps, st') => conj ps (vcOps τ sp ops l st' K)
    | none => match stepOp τ sp ops st.freeze o with
      | some (ps, st') => conj ps (vcOps τ sp ops l st' K)
      | none => match stepOp τ sp ops st.freeze.freezeX o with
        | some (ps, st') => conj ps (vcOps τ sp ops l st' K)
        | none => False

section
variable {P : Program} {τ : Tab} [TabOk P τ] {sp : Spec} {W : World} {N0 F : Nat → Prop} {st : St} {β : Envr} {a : Act} {w : World}

theorem chain_ok {N : Nat → Prop} {find : Nat → Option SV} (hf : ∀ s x, find s = some x → SlotOk β N a w s x) (g : Nat) (p : Bool) (l : List (Nat × Bool)) (ps : List Prop) (h : chain find g p = some (l, ps)) (hg : tv a g = .bool p) :
    (∀ gp ∈ l, tv a gp.1 = .bool gp.2) ∧ (∀ q ∈ ps, q) := by
  unfold chain at h
  split at h
  · rename_i b hb
    simp only [Option.some.injEq, Prod.mk.injEq] at h
    obtain ⟨rfl, rfl⟩ := h
    have hv := (hf g _ hb : SDen β N w _ (tv a g)).val
    rw [hg] at hv
    refine ⟨fun gp hgp => ?_, fun q hq => ?_⟩
    · obtain rfl := List.mem_singleton.1 hgp; exact hg
    · obtain rfl := List.mem_singleton.1 hq; exact (Value.bool.inj hv).symm
  · rename_i h' q b hb
    simp only [Option.some.injEq, Prod.mk.injEq] at h
    obtain ⟨rfl, rfl⟩ := h
    have hs := hf g _ hb
    have hq : tv a h' = .bool q := by
      refine Classical.byContradiction fun hne => ?_
      have := hs.2 hne
      rw [hg] at this
      cases this
    have hv := (hs.1 hq).val
    rw [hg] at hv
    refine ⟨fun gp hgp => ?_, fun r hr => ?_⟩
    · rcases List.mem_cons.1 hgp with rfl | hgp
      · exact hg
      · obtain rfl := List.mem_singleton.1 hgp; exact hq
    · obtain rfl := List.mem_singleton.1 hr; exact (Value.bool.inj hv).symm
  · cases h

/-- A guard's slot and its value. -/
theorem wanted_iff {ops : Array Oper} {o : Oper} {j s : Nat} {p : Bool} (hg : o.guard = some (j, p)) (hd : dstOf ops j = some s) : Region.wanted o (yielded ops a.tmps) = true ↔ tv a s = .bool p := by
  unfold Region.wanted yielded
  unfold dstOf at hd
  simp only [hg, hd, Option.bind_some]
  unfold tv
  rw [Array.getD_eq_getD_getElem?]
  cases ht : a.tmps[s]? with
  | none => simp [undef]
  | some v =>
    simp only [Option.getD_some]
    cases v <;> simp

/-- What an operation that leaves the boxes alone does, guarded or not. -/
def StepGives (P : Program) (β : Envr) (N : Nat → Prop) (w : World) (ops : Array Oper) (o : Oper) (a : Act) (d : Nat) (x : SV) : Prop :=
  ∀ (K : Act → World → Prop) (Q : Exit → Act → World → Prop), (∀ v w', SlotOk β N (a.put (some d) v) w' d x → Below w.heap.size w w' → K (a.put (some d) v) w') →
    if Region.wanted o (yielded ops a.tmps) then o.wp P a w K Q else K (a.put o.dst undef) w

theorem stepV_ok (hsp : SpecOk P sp) {N : Nat → Prop} (hN : ∀ b, N b → b < w.heap.size) {bx : List (Nat × TypeId × List SV)} (hbx : BoxOk β N w bx) {find : Nat → Option SV} (hf : ∀ s x, find s = some x → SlotOk β N a w s x)
    {ops : Array Oper} {o : Oper} {ps : List Prop} {x : SV} (h : stepV τ sp ops bx find o = some (ps, x)) (hp : ∀ p ∈ ps, p) {d : Nat} (hd : o.dst = some d) (hlt : d < a.tmps.size)
    (hself : ∀ j p s, o.guard = some (j, p) → dstOf ops j = some s → s ≠ d) : StepGives P β N w ops o a d x := by
  unfold stepV at h
  split at h
  · rename_i G hs g hgd
    split at h
    · rename_i ps' y hev
      split at h
      case h_2 => cases h
      simp only [Option.some.injEq, Prod.mk.injEq] at h
      obtain ⟨rfl, rfl⟩ := h
      unfold guardOf at hgd
      split at hgd
      · rename_i hog
        simp only [Option.some.injEq, Prod.mk.injEq] at hgd
        obtain ⟨rfl, rfl, rfl⟩ := hgd
        intro K Q hK
        rw [if_pos (by simp [Region.wanted, hog])]
        have hp' : ∀ p ∈ ps', p := fun p hpm => by
          have := hp (imps [] p) (List.mem_map.2 ⟨p, hpm, rfl⟩)
          exact this
        refine evOp_ok (β := β) (N := N) hsp hN hbx (o := o) (a := a) (fun G' z s hG hz => lookF_ok (G := G' ++ []) hf (by simpa using hG) hz) hev hp' K Q fun v w' hv hbl => ?_
        rw [hd]
        refine hK v w' ?_ hbl
        refine SlotOk.of_den ?_
        rw [tv_put_same hlt]
        exact hv
      · rename_i j p hog
        split at hgd
        · rename_i s hds
          split at hgd
          · rename_i l qs hch
            simp only [Option.some.injEq, Prod.mk.injEq] at hgd
            obtain ⟨rfl, rfl, rfl⟩ := hgd
            intro K Q hK
            have hsd : s ≠ d := hself j p s hog hds
            by_cases hw : tv a s = .bool p
            · rw [if_pos ((wanted_iff hog hds).2 hw)]
              obtain ⟨c1, c2⟩ := chain_ok hf s p l qs hch hw
              have hp' : ∀ p ∈ ps', p := fun p hpm => imps_of (hp (imps qs p) (List.mem_map.2 ⟨p, hpm, rfl⟩)) c2
              refine evOp_ok (β := β) (N := N) hsp hN hbx (o := o) (a := a) (fun G' z s hG hz => lookF_ok (G := G' ++ l) hf (fun gp hgp => ?_) hz) hev hp' K Q fun v w' hv hbl => ?_
              · rcases List.mem_append.1 hgp with hgp | hgp
                · exact hG gp hgp
                · exact c1 gp hgp
              · rw [hd]
                refine hK v w' ⟨fun _ => by rw [tv_put_same hlt]; exact hv, fun hne => ?_⟩ hbl
                rw [tv_put_other hsd] at hne
                exact absurd hw hne
            · rw [if_neg (fun hc => hw ((wanted_iff hog hds).1 hc)), hd]
              refine hK undef w ⟨fun he => ?_, fun _ => by rw [tv_put_same hlt]⟩ (Below.refl _ _)
              rw [tv_put_other hsd] at he
              exact absurd he hw
          · cases hgd
        · cases hgd
    · split at h
      case h_2 => cases h
      rename_i gp
      obtain ⟨sg, pg⟩ := gp
      simp only [Option.some.injEq, Prod.mk.injEq] at h
      obtain ⟨rfl, rfl⟩ := h
      unfold guardOf at hgd
      split at hgd
      · simp only [Option.some.injEq, Prod.mk.injEq, reduceCtorEq, and_false] at hgd
      · rename_i j p hog
        split at hgd
        · rename_i s hds
          split at hgd
          · rename_i l qs hch
            simp only [Option.some.injEq, Prod.mk.injEq] at hgd
            obtain ⟨rfl, rfl, rfl, rfl⟩ := hgd
            intro K Q hK
            have hsd : s ≠ d := hself j p s hog hds
            by_cases hw : tv a s = .bool p
            · obtain ⟨c1, c2⟩ := chain_ok hf s p l qs hch hw
              exact (imps_of (hp (imps qs False) (List.mem_singleton.2 rfl)) c2).elim
            · rw [if_neg (fun hc => hw ((wanted_iff hog hds).1 hc)), hd]
              refine hK undef w ⟨fun he => ?_, fun _ => by rw [tv_put_same hlt]⟩ (Below.refl _ _)
              rw [tv_put_other hsd] at he
              exact absurd he hw
          · cases hgd
        · cases hgd
  · cases h

/-- A guarded entry comes of the operation's own guard. -/
theorem stepV_grd {bx : List (Nat × TypeId × List SV)} {find : Nat → Option SV} {ops : Array Oper} {o : Oper} {ps : List Prop} {g : Nat} {p : Bool} {y : SV} (h : stepV τ sp ops bx find o = some (ps, .grd g p y)) :
    ∃ m, o.guard = some (m, p) ∧ dstOf ops m = some g := by
  unfold stepV at h
  split at h
  · rename_i G hs gg hgd
    split at h
    · rename_i ps' x hev
      split at h
      case h_2 => cases h
      rename_i hx
      simp only [Option.some.injEq, Prod.mk.injEq] at h
      obtain ⟨rfl, h2⟩ := h
      unfold guardOf at hgd
      split at hgd
      · simp only [Option.some.injEq, Prod.mk.injEq] at hgd
        obtain ⟨_, _, rfl⟩ := hgd
        simp only [wrapG] at h2
        rw [h2] at hx; cases hx
      · rename_i j p' hog
        split at hgd
        · rename_i s hds
          split at hgd
          · simp only [Option.some.injEq, Prod.mk.injEq] at hgd
            obtain ⟨_, _, rfl⟩ := hgd
            simp only [wrapG, SV.grd.injEq] at h2
            obtain ⟨rfl, rfl, _⟩ := h2
            exact ⟨j, hog, hds⟩
          · cases hgd
        · cases hgd
    · split at h
      case h_2 => cases h
      simp only [Option.some.injEq, Prod.mk.injEq] at h
      obtain ⟨_, h2⟩ := h
      unfold guardOf at hgd
      split at hgd
      · simp only [Option.some.injEq, Prod.mk.injEq, reduceCtorEq, and_false] at hgd
      · rename_i j p' hog
        split at hgd
        · rename_i s hds
          split at hgd
          · simp only [Option.some.injEq, Prod.mk.injEq] at hgd
            obtain ⟨_, _, rfl⟩ := hgd
            simp only [wrapG, SV.grd.injEq] at h2
            obtain ⟨rfl, rfl, _⟩ := h2
            exact ⟨j, hog, hds⟩
          · cases hgd
        · cases hgd
  · cases h

/-- The step of the list of a plain region. -/
def StepTo (P : Program) (W : World) (N0 F : Nat → Prop) (ops : Array Oper) (o : Oper) (st' : St) (a : Act) (w : World) : Prop :=
  ∀ (K : Act → World → Prop) (Q : Exit → Act → World → Prop), (∀ a' w' β', Rel W N0 F st' β' a' w' → K a' w') → if Region.wanted o (yielded ops a.tmps) then o.wp P a w K Q else K (a.put o.dst undef) w

theorem noPs_eq {x : Option St} {ps : List Prop} {st' : St} (h : noPs x = some (ps, st')) : x = some st' := by
  unfold noPs at h
  split at h
  · simp only [Option.some.injEq, Prod.mk.injEq] at h; rw [h.2]
  · cases h

theorem eff_ok (h : Rel W N0 F st β a w) {ops : Array Oper} {o : Oper} {ps : List Prop} {st' : St} (hg : o.guard = none) (he : eff τ st o = some (ps, st')) (hp : ∀ p ∈ ps, p) : StepTo P W N0 F ops o st' a w := by
  intro K Q hK
  rw [if_pos (by simp [Region.wanted, hg])]
  have hl : ∀ x s, st.look [] x = some s → SDen β (NB N0 β st.bx st.ow) w s (a.eval x) := fun x s hx => St.look_ok h (fun gp hgp => by cases hgp) hx
  unfold eff at he
  split at he
  · rename_i T v d ho hd
    split at he
    · rename_i r hr
      split at he
      · rename_i hone
        have hden := hl _ _ hr
        cases hden with
        | d hden =>
          have hc := Cells.of_den hden hone
          have hrel := h.newBox (noPs_eq he) hc
          unfold Oper.wp
          have hrun : (execOp a.eval o).run P w = .ok (.value (.pointer (some ⟨w.heap.size, 0, none⟩))) (w.alloc (.cells (a.eval v).cells T)) := by
            simp [execOp, ho, Instr.box, newVar, newRow]
          rw [hrun]
          have := hK _ _ _ hrel
          show K (a.put o.dst _) _
          rw [hd]
          simpa using this
      · cases he
    · cases he
  · rename_i T d ho hd
    split at he
    · rename_i r hr
      split at he
      · rename_i hone
        obtain ⟨zv, hz, hden⟩ := zeroOf_ok (P := P) (N := NB N0 β st.bx st.ow) (w := w) hr w
        have hc := Cells.of_den hden hone
        have hrel := h.newBox (noPs_eq he) hc
        unfold Oper.wp
        have hrun : (execOp a.eval o).run P w = .ok (.value (.pointer (some ⟨w.heap.size, 0, none⟩))) (w.alloc (.cells zv.cells T)) := by
          simp [execOp, ho, Instr.alloc, hz, newVar, newRow]
        rw [hrun]
        have := hK _ _ _ hrel
        show K (a.put o.dst _) _
        rw [hd]
        simpa using this
      · cases he
    · cases he
  · rename_i T x v ho hd
    split at he
    · rename_i i off y hx hv
      split at he
      · rename_i s cs hs hcs
        split at he
        · rename_i hsz
          have hsz := Nat.eq_of_beq_eq_true hsz
          have hden := hl _ _ hv
          have hloc := hl _ _ hx
          obtain ⟨hc, hone⟩ := cellsSV_ok h.owns hcs hden
          obtain ⟨w', hrun, hrel⟩ := h.store (noPs_eq he) hc hone P
          have hev : a.eval x = .pointer (some ⟨β.b i, off, none⟩) := by
            generalize a.eval x = u at hloc
            cases hloc; rfl
          unfold Oper.wp
          have hlen : (a.eval v).cells.size = s := by have := hc.1; simp at this; omega
          have hrun' : (execOp a.eval o).run P w = .ok .skip w' := by
            simp [execOp, ho, hev, Instr.storeAt, Instr.sureAddr, storeVar, run_size hs, hlen, hrun]
          rw [hrun']
          have := hK _ _ _ hrel
          show K (a.put o.dst undef) w'
          rw [hd]
          exact this
        · cases he
      · cases he
    · cases he
  · rename_i c d ho hd
    split at he
    · rename_i x y T T' hcal hargs hty
      split at he
      · rename_i s t hT hx hy
        obtain rfl := Nat.eq_of_beq_eq_true hT
        obtain ⟨r, w', β', hrun, hrel⟩ := h.append (P := P) he hp (hl _ _ hx) (hl _ _ hy) o.type
        have e1 : c.args = #[x, y] := Array.toList_inj.1 hargs
        have e2 : c.argTypes = #[T, T] := Array.toList_inj.1 hty
        unfold Oper.wp
        have hrun' : (execOp a.eval o).run P w = .ok (.value r) w' := by
          simp [execOp, ho, resolve, hcal, e1, e2, invoke, builtin, hrun]
        rw [hrun']
        have := hK _ _ _ hrel
        show K (a.put o.dst r) w'
        rw [hd]
        exact this
      · cases he
    · cases he
  · cases he

theorem put_lt {d : Nat} {x : SV} {st st' : St} (h : st.put d x = some st') : d < st.n := by
  unfold St.put at h
  split at h
  · rename_i hc
    simp only [Bool.and_eq_true] at hc
    exact Nat.le_of_ble_eq_true hc.1.1
  · cases h
theorem putG_lt {d g : Nat} {p : Bool} {x : SV} {st st' : St} (h : st.putG d g p x = some st') : d < st.n ∧ d ≠ g := by
  unfold St.putG at h
  split at h
  · rename_i hc
    simp only [Bool.and_eq_true] at hc
    exact ⟨Nat.le_of_ble_eq_true hc.1.1.1, fun e => by rw [e] at hc; simp at hc⟩
  · cases h

/-- A plain entry comes of an operation without a guard. -/
theorem stepV_plain {bx : List (Nat × TypeId × List SV)} {find : Nat → Option SV} {ops : Array Oper} {o : Oper} {ps : List Prop} {x : SV} (h : stepV τ sp ops bx find o = some (ps, x)) (hx : isG x = false) : o.guard = none := by
  unfold stepV at h
  split at h
  · rename_i G hs gg hgd
    split at h
    · rename_i ps' y hev
      split at h
      case h_2 => cases h
      simp only [Option.some.injEq, Prod.mk.injEq] at h
      obtain ⟨rfl, rfl⟩ := h
      unfold guardOf at hgd
      split at hgd
      · assumption
      · split at hgd
        · split at hgd
          · simp only [Option.some.injEq, Prod.mk.injEq] at hgd
            obtain ⟨_, _, rfl⟩ := hgd
            cases hx
          · cases hgd
        · cases hgd
    · split at h
      case h_2 => cases h
      simp only [Option.some.injEq, Prod.mk.injEq] at h
      obtain ⟨_, h2⟩ := h
      rw [← h2] at hx
      cases hx
  · cases h

theorem stepOp_ok (hsp : SpecOk P sp) (h : Rel W N0 F st β a w) {ops : Array Oper} {o : Oper} {ps : List Prop} {st' : St} (hs : stepOp τ sp ops st o = some (ps, st')) (hp : ∀ p ∈ ps, p) : StepTo P W N0 F ops o st' a w := by
  unfold stepOp at hs
  split at hs
  · split at hs
    · rename_i hg
      exact eff_ok h hg hs hp
    · cases hs
  · split at hs
    · rename_i ps' x d hv hd
      split at hs
      · rename_i g p y
        split at hs
        · rename_i st'' hput
          simp only [Option.some.injEq, Prod.mk.injEq] at hs
          obtain ⟨rfl, rfl⟩ := hs
          have hlt := putG_lt hput
          intro K Q hK
          refine stepV_ok hsp h.NB_lt h.boxes h.find_ok hv hp hd (by rw [h.size]; exact hlt.1) (fun j p' s hg hds => ?_) K Q fun v w' hv' hbl => hK _ _ _ ((h.below hbl).putG hput hv')
          obtain ⟨m, hm, hms⟩ := stepV_grd hv
          rw [hg] at hm
          obtain ⟨rfl, rfl⟩ := Prod.mk.inj (Option.some.inj hm)
          rw [hds] at hms
          obtain rfl := Option.some.inj hms
          exact Ne.symm hlt.2
        · cases hs
      · rename_i hno
        split at hs
        · rename_i st'' hput
          simp only [Option.some.injEq, Prod.mk.injEq] at hs
          obtain ⟨rfl, rfl⟩ := hs
          have hlt := put_lt hput
          have hx : isG x = false := by
            cases x with
            | grd g p y => exact absurd rfl (hno g p y)
            | _ => rfl
          intro K Q hK
          refine stepV_ok hsp h.NB_lt h.boxes h.find_ok hv hp hd (by rw [h.size]; exact hlt) (fun j p s hg _ => by rw [stepV_plain hv hx] at hg; cases hg) K Q fun v w' hv' hbl => ?_
          have hden := hv'.den hx
          rw [tv_put_same (by rw [h.size]; exact hlt)] at hden
          exact hK _ _ _ ((h.below hbl).put hput hden)
        · cases hs
    · cases hs

theorem vcOps_ok (hsp : SpecOk P sp) {ops : Array Oper} {Q : Exit → Act → World → Prop} : ∀ (l : List Oper) (st : St) (K : St → Prop) (β : Envr) (a : Act) (w : World), vcOps τ sp ops l st K → Rel W N0 F st β a w →
    (∀ st' β' a' w', Rel W N0 F st' β' a' w' → K st' → Q .normal a' w') → wpList P ops Q l a w
  | [], st, K, β, a, w, h, hr, hQ => hQ st β a w hr h
  | o :: l, st, K, β, a, w, h, hr, hQ => by
    simp only [vcOps] at h
    split at h
    · rename_i ps st' hs
      obtain ⟨hp, hrest⟩ := conj_of h
      refine wpList_step fun K' hK' => ?_
      exact stepOp_ok hsp hr hs hp K' Q fun a' w' β' hr' => hK' a' w' (vcOps_ok hsp l st' K β' a' w' hrest hr' hQ)
    · split at h
      · rename_i ps st' hs
        obtain ⟨hp, hrest⟩ := conj_of h
        refine wpList_step fun K' hK' => ?_
        exact stepOp_ok hsp hr.freeze hs hp K' Q fun a' w' β' hr' => hK' a' w' (vcOps_ok hsp l st' K β' a' w' hrest hr' hQ)
      · split at h
        · rename_i ps st' hs
          obtain ⟨hp, hrest⟩ := conj_of h
          refine wpList_step fun K' hK' => ?_
          exact stepOp_ok hsp hr.freeze.freezeX hs hp K' Q fun a' w' β' hr' => hK' a' w' (vcOps_ok hsp l st' K β' a' w' hrest hr' hQ)
        · exact h.elim

end
end Go.Sim

namespace Go.Sim
open Go.RowKit (Below)

def predIn (i : Nat) : List Edge → Bool
  | [] => false
  | e :: l => (Nat.beq e.on i && Region.binds .any e) || predIn i l
def predOf (o : Oper) (i : Nat) : Bool := predIn i o.after.toList

theorem predIn_ok {i : Nat} : ∀ {l : List Edge}, predIn i l = true → ∃ e ∈ l, e.on = i ∧ Region.binds .any e = true
  | e :: l, h => by
    simp only [predIn, Bool.or_eq_true, Bool.and_eq_true] at h
    rcases h with ⟨h1, h2⟩ | h
    · exact ⟨e, List.mem_cons_self, Nat.eq_of_beq_eq_true h1, h2⟩
    · obtain ⟨e', a, b, c⟩ := predIn_ok h
      exact ⟨e', List.mem_cons_of_mem _ a, b, c⟩

/-- May operation j look at slot s: whoever else writes it comes surely before or surely after. -/
def seesGo (j : Nat) (oj : Oper) (s : Nat) : Nat → List Oper → Bool
  | _, [] => true
  | i, o :: l => (match o.dst with
    | some d => match Nat.beq d s with
      | true => match Nat.blt i j with
        | true => predOf oj i
        | false => Nat.blt j i && predOf o j
      | false => true
    | none => true) && seesGo j oj s (i + 1) l

theorem seesGo_ok {j : Nat} {oj : Oper} {s : Nat} : ∀ (l : List Oper) (i : Nat), seesGo j oj s i l = true → ∀ k o, l[k]? = some o → o.dst = some s → (i + k < j ∧ predOf oj (i + k) = true) ∨ (j < i + k ∧ predOf o j = true)
  | [], i, h, k, o, hk, _ => by simp at hk
  | o' :: l, i, h, k, o, hk, hd => by
    simp only [seesGo, Bool.and_eq_true] at h
    cases k with
    | zero =>
      simp at hk; subst hk
      have h1 := h.1
      simp only [hd, Nat.beq_refl] at h1
      split at h1
      · rename_i hlt
        exact .inl ⟨by have := Nat.le_of_ble_eq_true hlt; omega, h1⟩
      · simp only [Bool.and_eq_true] at h1
        exact .inr ⟨by have := Nat.le_of_ble_eq_true h1.1; omega, h1.2⟩
    | succ k =>
      have := seesGo_ok l (i + 1) h.2 k o (by simpa using hk) hd
      rw [show i + (k + 1) = i + 1 + k by omega]; exact this

def lookD (rs sl : List (Nat × SV)) (s : Nat) : Option SV :=
  match findB rs s with
  | some x => some x
  | none => findB sl s

def findV (ops : List Oper) (j : Nat) (oj : Oper) (rs sl : List (Nat × SV)) (s : Nat) : Option SV :=
  match seesGo j oj s 0 ops with
  | true => lookD rs sl s
  | false => none

def drawRun (τ : Tab) (sp : Spec) (ops : Array Oper) (bx : List (Nat × TypeId × List SV)) (sl : List (Nat × SV)) : Nat → List Oper → List (Nat × SV) → Option (List Prop × List (Nat × SV))
  | _, [], rs => some ([], rs)
  | j, o :: l, rs => match stepV τ sp ops bx (findV ops.toList j o rs sl) o, o.dst with
    | some (ps, x), some d => match drawRun τ sp ops bx sl (j + 1) l ((d, x) :: rs) with
      | some (qs, r) => some (ps ++ qs, r)
      | none => none
    | _, _ => none

/-- Edges lead back; each slot is written once and lies in the frame; a guard is waited for. -/
def edgesBack (j : Nat) : List Edge → Bool
  | [] => true
  | e :: l => (!(Region.binds .any e) || Nat.blt e.on j) && edgesBack j l
theorem edgesBack_ok {j : Nat} : ∀ {l : List Edge}, edgesBack j l = true → ∀ e ∈ l, Region.binds .any e = true → e.on < j
  | e :: l, h, e', he, hb => by
    simp only [edgesBack, Bool.and_eq_true, Bool.or_eq_true, Bool.not_eq_true'] at h
    rcases List.mem_cons.1 he with rfl | he
    · rcases h.1 with h1 | h1
      · rw [h1] at hb; cases hb
      · exact Nat.le_of_ble_eq_true h1
    · exact edgesBack_ok h.2 e' he hb

def drawOK (n : Nat) : Nat → List Nat → List Oper → Bool
  | _, _, [] => true
  | j, ds, o :: l => (match o.dst with
    | some d => Nat.blt d n && !(ds.elem d) && edgesBack j o.after.toList && (match o.guard with
      | some (m, _) => predOf o m
      | none => true) && drawOK n (j + 1) (d :: ds) l
    | none => false)

theorem drawOK_ok {n : Nat} : ∀ (l : List Oper) (j : Nat) (ds : List Nat), drawOK n j ds l = true → ∀ k o, l[k]? = some o → ∃ d, o.dst = some d ∧ d < n ∧ d ∉ ds ∧ (∀ k', k' < k → ∀ o', l[k']? = some o' → o'.dst ≠ some d) ∧
    (∀ e ∈ o.after, Region.binds .any e = true → e.on < j + k) ∧ (∀ m p, o.guard = some (m, p) → predOf o m = true)
  | [], j, ds, h, k, o, hk => by simp at hk
  | o' :: l, j, ds, h, k, o, hk => by
    simp only [drawOK] at h
    split at h
    · rename_i d hd
      simp only [Bool.and_eq_true, Bool.not_eq_true'] at h
      obtain ⟨⟨⟨⟨h1, h2⟩, h3⟩, h4⟩, h5⟩ := h
      cases k with
      | zero =>
        simp at hk; subst hk
        refine ⟨d, hd, Nat.le_of_ble_eq_true h1, fun hm => ?_, fun k' hk' => absurd hk' (Nat.not_lt_zero k'), fun e he hb => edgesBack_ok h3 e (by simpa using he) hb, fun m p hg => ?_⟩
        · rw [List.elem_eq_mem] at h2; simp [hm] at h2
        · simpa [hg] using h4
      | succ k =>
        obtain ⟨d', a1, a2, a3, a4, a5, a6⟩ := drawOK_ok l (j + 1) (d :: ds) h5 k o (by simpa using hk)
        refine ⟨d', a1, a2, fun hm => a3 (List.mem_cons_of_mem _ hm), fun k' hk' o'' ho'' => ?_, fun e he hb => by have := a5 e he hb; omega, a6⟩
        cases k' with
        | zero =>
          simp at ho''; subst ho''
          rw [hd]
          intro e
          have : d = d' := by simpa using e
          exact a3 (this ▸ List.mem_cons_self)
        | succ k' => exact a4 k' (by omega) o'' (by simpa using ho'')
    · cases h

/-- The entries that hold without a guard. -/
def plains : List (Nat × SV) → List (Nat × SV)
  | [] => []
  | (k, x) :: l => match isG x with
    | true => plains l
    | false => (k, x) :: plains l
theorem plains_mem {s : Nat} {x : SV} : ∀ {l : List (Nat × SV)}, (s, x) ∈ plains l → isG x = false ∧ (s, x) ∈ l
  | (k, y) :: l, h => by
    simp only [plains] at h
    split at h
    · obtain ⟨a, b⟩ := plains_mem h; exact ⟨a, List.mem_cons_of_mem _ b⟩
    · rename_i hc
      rcases List.mem_cons.1 h with h | h
      · obtain ⟨rfl, rfl⟩ := Prod.mk.inj h; exact ⟨hc, List.mem_cons_self⟩
      · obtain ⟨a, b⟩ := plains_mem h; exact ⟨a, List.mem_cons_of_mem _ b⟩
theorem mem_plains {s : Nat} {x : SV} (hx : isG x = false) : ∀ {l : List (Nat × SV)}, (s, x) ∈ l → (s, x) ∈ plains l
  | (k, y) :: l, h => by
    simp only [plains]
    rcases List.mem_cons.1 h with h | h
    · obtain ⟨rfl, rfl⟩ := Prod.mk.inj h
      rw [hx]; exact List.mem_cons_self
    · split
      · exact mem_plains hx h
      · exact List.mem_cons_of_mem _ (mem_plains hx h)

/-- No slot that is written under a guard had an entry before. -/
def noOld (sl : List (Nat × SV)) : List (Nat × SV) → Bool
  | [] => true
  | (k, x) :: l => (!(isG x) || isNone (findB sl k)) && noOld sl l
theorem noOld_ok {sl : List (Nat × SV)} {s : Nat} {x : SV} : ∀ {l : List (Nat × SV)}, noOld sl l = true → (s, x) ∈ l → isG x = true → findB sl s = none
  | (k, y) :: l, h, hm, hx => by
    simp only [noOld, Bool.and_eq_true, Bool.or_eq_true, Bool.not_eq_true'] at h
    rcases List.mem_cons.1 hm with hm | hm
    · obtain ⟨rfl, rfl⟩ := Prod.mk.inj hm
      rcases h.1 with h1 | h1
      · rw [hx] at h1; cases h1
      · exact isNone_eq h1
    · exact noOld_ok h.2 hm hx

theorem findB_append {α : Type} {s : Nat} {l' : List (Nat × α)} : ∀ {l : List (Nat × α)}, findB (l ++ l') s = match findB l s with | some x => some x | none => findB l' s
  | [] => rfl
  | (k, x) :: l => by
    simp only [List.cons_append, findB]
    cases Nat.beq k s with
    | true => rfl
    | false => exact findB_append

def isNil {α : Type} : List α → Bool
  | [] => true
  | _ => false

def drawTry (τ : Tab) (sp : Spec) (ops : Array Oper) (st : St) : Option (List Prop × St) :=
  match drawOK st.n 0 [] ops.toList && isNil st.gl with
  | true => match drawRun τ sp ops st.bx st.sl 0 ops.toList [] with
    | some (ps, rs) => match noOld st.sl rs with
      | true => some (ps, ⟨st.n, plains rs ++ st.sl, [], st.bx, st.ow, st.nx⟩)
      | false => none
    | none => none
  | false => none

theorem drawRun_spec {τ : Tab} {sp : Spec} {ops : Array Oper} {bx : List (Nat × TypeId × List SV)} {sl : List (Nat × SV)} : ∀ (l : List Oper) (j : Nat) (rs : List (Nat × SV)) (ps : List Prop) (r : List (Nat × SV)), drawRun τ sp ops bx sl j l rs = some (ps, r) →
    ∃ xs : List (Nat × SV), xs.length = l.length ∧ r = xs.reverse ++ rs ∧ ∀ k o, l[k]? = some o → ∃ ps' x d, o.dst = some d ∧ xs[k]? = some (d, x) ∧
      stepV τ sp ops bx (findV ops.toList (j + k) o ((xs.take k).reverse ++ rs) sl) o = some (ps', x) ∧ ∀ p ∈ ps', p ∈ ps
  | [], j, rs, ps, r, h => by
    simp only [drawRun, Option.some.injEq, Prod.mk.injEq] at h
    exact ⟨[], rfl, by simpa using h.2.symm, fun k o hk => by simp at hk⟩
  | o :: l, j, rs, ps, r, h => by
    simp only [drawRun] at h
    split at h
    · rename_i ps0 x d hs hd
      split at h
      · rename_i qs r' hr
        simp only [Option.some.injEq, Prod.mk.injEq] at h
        obtain ⟨rfl, rfl⟩ := h
        obtain ⟨xs, h1, h2, h3⟩ := drawRun_spec l (j + 1) _ _ _ hr
        refine ⟨(d, x) :: xs, by simp [h1], by simp [h2], fun k o' hk => ?_⟩
        cases k with
        | zero =>
          simp at hk; subst hk
          exact ⟨ps0, x, d, hd, rfl, by simpa using hs, fun p hp => List.mem_append.2 (.inl hp)⟩
        | succ k =>
          obtain ⟨ps', x', d', a1, a2, a3, a4⟩ := h3 k o' (by simpa using hk)
          refine ⟨ps', x', d', a1, by simpa using a2, ?_, fun p hp => List.mem_append.2 (.inr (a4 p hp))⟩
          have : (List.take (k + 1) ((d, x) :: xs)).reverse ++ rs = (List.take k xs).reverse ++ (d, x) :: rs := by simp
          rw [this, show j + (k + 1) = j + 1 + k by omega]
          exact a3
      · cases h
    · cases h

theorem countP_lt {p p' : Nat → Bool} {j : Nat} : ∀ {l : List Nat}, (∀ i ∈ l, p' i = true → p i = true) → j ∈ l → p j = true → p' j = false → l.countP p' < l.countP p
  | i :: l, h, hj, h1, h2 => by
    have hmono : l.countP p' ≤ l.countP p := List.countP_mono_left fun x hx => h x (List.mem_cons_of_mem _ hx)
    rw [List.countP_cons, List.countP_cons]
    by_cases hji : j = i
    · subst hji
      simp [h1, h2]; omega
    · have hj' : j ∈ l := by rcases List.mem_cons.1 hj with e | e; exact absurd e hji; exact e
      have ih := countP_lt (fun x hx => h x (List.mem_cons_of_mem _ hx)) hj' h1 h2
      have := h i List.mem_cons_self
      split <;> split <;> first | omega | (rename_i a b; exact absurd (this a) b)

theorem findB_take {xs : List (Nat × SV)} {k : Nat} {s : Nat} {x : SV} (h : findB (xs.take k).reverse s = some x) : ∃ i, i < k ∧ xs[i]? = some (s, x) := by
  have := findB_mem h
  rw [List.mem_reverse] at this
  obtain ⟨i, hi⟩ := List.mem_iff_getElem?.1 this
  rw [List.getElem?_take] at hi
  split at hi
  · rename_i hlt; exact ⟨i, hlt, hi⟩
  · cases hi

theorem findB_none_mem {α : Type} {s : Nat} {x : α} : ∀ {l : List (Nat × α)}, findB l s = none → (s, x) ∉ l
  | (k, y) :: l, h, hm => by
    simp only [findB] at h
    split at h
    · cases h
    · rename_i hk
      rcases List.mem_cons.1 hm with hm | hm
      · obtain ⟨rfl, rfl⟩ := Prod.mk.inj hm; simp at hk
      · exact findB_none_mem h hm

section
variable {P : Program} {τ : Tab} [TabOk P τ] {sp : Spec} {W : World} {N0 F : Nat → Prop} {st : St} {β : Envr} {a : Act} {w : World}

/-- What holds when the operations of 'listed' have come up. -/
structure DInv (W : World) (N0 F : Nat → Prop) (st : St) (ops : Array Oper) (xs : List (Nat × SV)) (β : Envr) (listed : Array Bool) (a : Act) (w : World) : Prop where
  keeps : Keeps F W w
  size : a.tmps.size = st.n
  defers : a.defers = []
  boxes : BoxOk β (NB N0 β st.bx st.ow) w st.bx
  done : ∀ k d x, xs[k]? = some (d, x) → listed.getD k false = true → SlotOk β (NB N0 β st.bx st.ow) a w d x
  old : ∀ s y, findB st.sl s = some y → (∀ k d x, xs[k]? = some (d, x) → listed.getD k false = true → d ≠ s) → SDen β (NB N0 β st.bx st.ow) w y (tv a s)
  closed : ∀ k o, ops[k]? = some o → listed.getD k false = true → ∀ e ∈ o.after, Region.binds .any e = true → listed.getD e.on false = true
  size' : listed.size = ops.size
  owns : OwnsOk W.heap.size β (NB N0 β st.bx st.ow) w st.ow

theorem getD_false_true {l : Array Bool} {j : Nat} (h : j < l.size) : l.getD j true = l.getD j false := by simp [Array.getD, h]

theorem draw_ok (hsp : SpecOk P sp) (h0 : Rel W N0 F st β a w) {ops : Array Oper} (hok : drawOK st.n 0 [] ops.toList = true) {xs : List (Nat × SV)} (hxl : xs.length = ops.size)
    (hx : ∀ k o, ops[k]? = some o → ∃ ps' x d, o.dst = some d ∧ xs[k]? = some (d, x) ∧ stepV τ sp ops st.bx (findV ops.toList k o (xs.take k).reverse st.sl) o = some (ps', x) ∧ ∀ p ∈ ps', p)
    {Q : Exit → Act → World → Prop} (hno : noOld st.sl xs.reverse = true) (hQ : ∀ a' w', Rel W N0 F ⟨st.n, plains xs.reverse ++ st.sl, [], st.bx, st.ow, st.nx⟩ β a' w' → Q .normal a' w') :
    ∀ (fuel : Nat) (listed : Array Bool) (a : Act) (w : World), DInv W N0 F st ops xs β listed a w → (List.range ops.size).countP (fun i => !listed.getD i true) ≤ fuel → wpAny P .any ops Q fuel listed a w := by
  have hdst : ∀ (k : Nat) (o : Oper) (d : Nat), ops[k]? = some o → o.dst = some d → ∃ x, xs[k]? = some (d, x) := fun k o d ho hd => by
    obtain ⟨_, x, d', h1, h2, _⟩ := hx k o ho
    rw [hd] at h1; obtain rfl := Option.some.inj h1
    exact ⟨x, h2⟩
  have hspec : ∀ (k : Nat) (o : Oper), ops[k]? = some o → _ := fun k o ho => drawOK_ok ops.toList 0 [] hok k o (by simpa using ho)
  have hinj : ∀ (k k' d : Nat) (x x' : SV), xs[k]? = some (d, x) → xs[k']? = some (d, x') → k = k' := by
    intro k k' d x x' h1 h2
    have hk : k < ops.size := by rw [← hxl]; exact (List.getElem?_eq_some_iff.1 h1).1
    have hk' : k' < ops.size := by rw [← hxl]; exact (List.getElem?_eq_some_iff.1 h2).1
    have e1 : ops[k]? = some ops[k] := Array.getElem?_eq_getElem hk
    have e2 : ops[k']? = some ops[k'] := Array.getElem?_eq_getElem hk'
    obtain ⟨_, y, d1, f1, f2, _⟩ := hx k _ e1
    obtain ⟨_, y', d2, g1, g2, _⟩ := hx k' _ e2
    rw [h1] at f2; rw [h2] at g2
    have fd : d = d1 := (Prod.mk.inj (Option.some.inj f2)).1
    have gd : d = d2 := (Prod.mk.inj (Option.some.inj g2)).1
    obtain ⟨q1, r1, _, _, r4, _⟩ := hspec k _ e1
    obtain ⟨q2, s1, _, _, s4, _⟩ := hspec k' _ e2
    rcases Nat.lt_trichotomy k k' with hlt | heq | hgt
    · exact absurd (by rw [f1, ← fd, gd, ← g1] : ops[k].dst = ops[k'].dst) (by rw [s1]; exact s4 k hlt _ (by simp))
    · exact heq
    · exact absurd (by rw [g1, ← gd, fd, ← f1] : ops[k'].dst = ops[k].dst) (by rw [r1]; exact r4 k' hgt _ (by simp))
  have fin : ∀ (listed : Array Bool) (a : Act) (w : World), DInv W N0 F st ops xs β listed a w → Region.ready .any ops listed = [] → Q .normal a w := by
    intro listed a w hi hr
    have hall : ∀ k, k < ops.size → listed.getD k false = true := by
      intro k
      induction k using Nat.strongRecOn with
      | _ k ih =>
        intro hk
        refine Classical.byContradiction fun hne => ?_
        have hmem : k ∈ Region.ready .any ops listed := by
          rw [mem_ready]
          refine ⟨by rw [getD_false_true (by rw [hi.size']; exact hk)]; simpa using hne, ops[k], Array.getElem?_eq_getElem hk, fun e he hb => ?_⟩
          obtain ⟨_, _, _, _, _, a5, _⟩ := hspec k _ (Array.getElem?_eq_getElem hk)
          have := a5 e he hb
          exact ih e.on (by omega) (by omega)
        rw [hr] at hmem
        cases hmem
    refine hQ a w ⟨hi.keeps, hi.size, hi.defers, fun s x hm => ?_, fun s g p x hm => (by cases hm), hi.boxes, h0.inj, h0.own, h0.outer, hi.owns, h0.odist, h0.obox, h0.onx⟩
    have hm : findB (plains xs.reverse ++ st.sl) s = some x := hm
    rw [findB_append] at hm
    split at hm
    · rename_i y hy
      simp only [Option.some.injEq] at hm; subst hm
      obtain ⟨hg, hm⟩ := plains_mem (findB_mem hy)
      rw [List.mem_reverse] at hm
      obtain ⟨k, hk⟩ := List.mem_iff_getElem?.1 hm
      exact (hi.done k s y hk (hall k (by rw [← hxl]; exact (List.getElem?_eq_some_iff.1 hk).1))).den hg
    · rename_i hn
      refine hi.old s x hm fun k d y hk _ e => ?_
      subst e
      have hmem : (d, y) ∈ xs.reverse := List.mem_reverse.2 (List.mem_of_getElem? hk)
      cases hy : isG y with
      | true => rw [noOld_ok hno hmem hy] at hm; cases hm
      | false => exact findB_none_mem hn (mem_plains hy hmem)
  have step : ∀ (listed : Array Bool) (a : Act) (w : World), DInv W N0 F st ops xs β listed a w → ∀ j ∈ Region.ready .any ops listed, ∀ (K : Act → World → Prop), (∀ a' w', DInv W N0 F st ops xs β (listed.setIfInBounds j true) a' w' → K a' w') → wpOp P ops Q j K a w := by
    intro listed a w hi j hj K hK
    obtain ⟨hjn, o, ho, hpre⟩ := mem_ready.1 hj
    have hjlt : j < ops.size := (Array.getElem?_eq_some_iff.1 ho).1
    have hjn' : listed.getD j false = false := by rw [← getD_false_true (by rw [hi.size']; exact hjlt)]; exact hjn
    obtain ⟨ps', x, d, hd, hxj, hstep, hps⟩ := hx j o ho
    obtain ⟨d', b1, b2, _, b4, b5, b6⟩ := hspec j o ho
    rw [hd] at b1; obtain rfl := Option.some.inj b1
    have hNlt : ∀ b, NB N0 β st.bx st.ow b → b < w.heap.size := by
      rintro b (hb | ⟨i, hi', rfl⟩ | ⟨i, hi', hb⟩)
      · exact Nat.lt_of_lt_of_le (h0.outer b hb).1 hi.keeps.size
      · cases hf : findB st.bx i with
        | none => rw [hf] at hi'; cases hi'
        | some p =>
          obtain ⟨vs, hv, _⟩ := hi.boxes i p.1 p.2 hf
          exact (Array.getElem?_eq_some_iff.1 hv).1
      · exact (hi.owns.lt hi' hb).2
    have hlist : ∀ i, predOf o i = true → listed.getD i false = true := fun i hp => by
      obtain ⟨e, he, h1, h2⟩ := predIn_ok hp
      rw [← h1]; exact hpre e (by simpa using he) h2
    have hfind : ∀ s y, findV ops.toList j o (xs.take j).reverse st.sl s = some y → SlotOk β (NB N0 β st.bx st.ow) a w s y := by
      intro s y hs
      unfold findV at hs
      split at hs
      · rename_i hsee
        have hsee' := seesGo_ok ops.toList 0 hsee
        unfold lookD at hs
        split at hs
        · rename_i z hz
          simp only [Option.some.injEq] at hs; subst hs
          obtain ⟨i, hij, hxi⟩ := findB_take hz
          have hi' : i < ops.size := by omega
          obtain ⟨_, x', d', f1, f2, _⟩ := hx i _ (Array.getElem?_eq_getElem hi')
          rw [hxi] at f2
          obtain ⟨rfl, rfl⟩ := Prod.mk.inj (Option.some.inj f2)
          rcases hsee' i ops[i] (by simp [hi']) f1 with ⟨_, hp⟩ | ⟨hlt, _⟩
          · exact hi.done i _ _ hxi (hlist i (by simpa using hp))
          · omega
        · rename_i hz
          refine SlotOk.of_den (hi.old s y hs fun k d2 x2 hk hl e => ?_)
          subst e
          have hk' : k < ops.size := by rw [← hxl]; exact (List.getElem?_eq_some_iff.1 hk).1
          obtain ⟨_, x', d', f1, f2, _⟩ := hx k _ (Array.getElem?_eq_getElem hk')
          rw [hk] at f2
          obtain ⟨rfl, rfl⟩ := Prod.mk.inj (Option.some.inj f2)
          rcases hsee' k ops[k] (by simp [hk']) f1 with ⟨hlt, _⟩ | ⟨hlt, hp⟩
          · refine findB_none_mem (x := x2) hz ?_
            rw [List.mem_reverse]
            exact List.mem_of_getElem? (i := k) (by rw [List.getElem?_take, if_pos (by omega)]; exact hk)
          · obtain ⟨e, he, h1, h2⟩ := predIn_ok hp
            have := hi.closed k _ (Array.getElem?_eq_getElem hk') hl e (by simpa using he) h2
            rw [h1, hjn'] at this
            cases this
      · cases hs
    have hself : ∀ m p s, o.guard = some (m, p) → dstOf ops m = some s → s ≠ d := by
      intro m p s hg hs e
      subst e
      have hpm := b6 m p hg
      obtain ⟨e, he, h1, h2⟩ := predIn_ok hpm
      have hm := b5 e (by simpa using he) h2
      unfold dstOf at hs
      cases hom : ops[m]? with
      | none => rw [hom] at hs; cases hs
      | some om =>
        rw [hom] at hs
        exact b4 m (by omega) om (by simpa using hom) (by simpa using hs)
    have hgive := stepV_ok (β := β) hsp hNlt hi.boxes hfind hstep hps hd (by rw [hi.size]; exact b2) hself
    have hfinal : ∀ v w', SlotOk β (NB N0 β st.bx st.ow) (a.put (some d) v) w' d x → Below w.heap.size w w' → DInv W N0 F st ops xs β (listed.setIfInBounds j true) (a.put (some d) v) w' := by
      intro v w' hv hbl
      have hsame : Same (NB N0 β st.bx st.ow) w w' := .of_below hbl
      have hset : ∀ k, (listed.setIfInBounds j true).getD k false = true → k = j ∨ listed.getD k false = true := fun k hk => by
        by_cases e : k = j
        · exact .inl e
        · rw [getD_set_ne false (Ne.symm e)] at hk; exact .inr hk
      have hset' : ∀ k, listed.getD k false = true → (listed.setIfInBounds j true).getD k false = true := fun k hk => by
        by_cases e : k = j
        · subst e; rw [hjn'] at hk; cases hk
        · rw [getD_set_ne false (Ne.symm e)]; exact hk
      refine ⟨hi.keeps.below hbl, by rw [put_size]; exact hi.size, by rw [put_defers']; exact hi.defers,
        hi.boxes.same hsame (fun i hi' => hbl.block _ (hNlt _ (.inr (.inl ⟨i, hi', rfl⟩)))), fun k d2 x2 hk hl => ?_, fun s y hm hno => ?_, fun k o2 hk hl e he hb => ?_, by simp [hi.size'],
        hi.owns.same hsame (fun i b hi' hb => hbl.block _ (hi.owns.lt hi' hb).2)⟩
      · rcases hset k hl with rfl | hl'
        · rw [hxj] at hk
          obtain ⟨rfl, rfl⟩ := Prod.mk.inj (Option.some.inj hk)
          exact hv
        · have hkj : k ≠ j := fun e => by rw [e, hjn'] at hl'; cases hl'
          have hne : d2 ≠ d := fun e => hkj (hinj k j d2 x2 x hk (e ▸ hxj))
          refine ((hi.done k d2 x2 hk hl').same hsame).turn (tv_put_other hne) (fun g p y e => tv_put_other ?_)
          subst e
          have hk' : k < ops.size := by rw [← hxl]; exact (List.getElem?_eq_some_iff.1 hk).1
          have hok := Array.getElem?_eq_getElem hk'
          obtain ⟨_, x3, d3, f1, f2, f3, _⟩ := hx k _ hok
          rw [hk] at f2
          obtain ⟨rfl, rfl⟩ := Prod.mk.inj (Option.some.inj f2)
          obtain ⟨m, hg, hds⟩ := stepV_grd f3
          obtain ⟨_, _, _, _, _, c5, c6⟩ := hspec k _ hok
          obtain ⟨e, he, h1, h2⟩ := predIn_ok (c6 m p hg)
          have hlm := hi.closed k _ hok hl' e (by simpa using he) h2
          rw [h1] at hlm
          intro e'
          subst e'
          unfold dstOf at hds
          cases hom : ops[m]? with
          | none => rw [hom] at hds; cases hds
          | some om =>
            rw [hom] at hds
            obtain ⟨x4, hx4⟩ := hdst m om _ hom hds
            have := hinj m j _ x4 x hx4 hxj
            rw [this, hjn'] at hlm
            cases hlm
      · have hne : s ≠ d := fun e => by
          refine hno j d x hxj ?_ e.symm
          simp [Array.getD, hi.size', hjlt]
        rw [tv_put_other hne]
        exact (hi.old s y hm fun k d2 x2 hk hl => hno k d2 x2 hk (hset' k hl)).same hsame
      · rcases hset k hl with rfl | hl'
        · rw [ho] at hk; obtain rfl := Option.some.inj hk
          exact hset' _ (hpre e he hb)
        · exact hset' _ (hi.closed k o2 hk hl' e he hb)
    have := hgive K Q fun v w' hv hbl => hK _ _ (hfinal v w' hv hbl)
    unfold wpOp
    simp only [ho]
    split
    · rename_i hw; rw [if_pos hw] at this; exact .inl this
    · rename_i hw; rw [if_neg hw] at this; exact this
  intro fuel
  induction fuel with
  | zero =>
    intro listed a w hi hc
    have hr : Region.ready .any ops listed = [] := by
      cases hr : Region.ready .any ops listed with
      | nil => rfl
      | cons j l =>
        have hj : j ∈ Region.ready .any ops listed := by rw [hr]; exact List.mem_cons_self
        obtain ⟨h1, o, ho, _⟩ := mem_ready.1 hj
        have hjlt : j < ops.size := (Array.getElem?_eq_some_iff.1 ho).1
        have : 0 < (List.range ops.size).countP (fun i => !listed.getD i true) := List.countP_pos_iff.2 ⟨j, List.mem_range.2 hjlt, by simp only [h1]; rfl⟩
        omega
    exact ⟨hr, fin listed a w hi hr⟩
  | succ fuel ih =>
    intro listed a w hi hc
    refine ⟨fun hr => fin listed a w hi hr, fun j hj => ?_⟩
    refine step listed a w hi j hj _ fun a' w' hi' => ih _ a' w' hi' ?_
    obtain ⟨h1, o, ho, _⟩ := mem_ready.1 hj
    have hjlt : j < ops.size := (Array.getElem?_eq_some_iff.1 ho).1
    have : (List.range ops.size).countP (fun i => !(listed.setIfInBounds j true).getD i true) < (List.range ops.size).countP (fun i => !listed.getD i true) := by
      refine countP_lt (j := j) (fun i _ h => ?_) (List.mem_range.2 hjlt) (by simp only [h1]; rfl) ?_
      · by_cases e : i = j
        · subst e; simp only [h1]; rfl
        · rw [getD_set_ne true (Ne.symm e)] at h; exact h
      · simp [Array.getD, hi.size', hjlt]
    omega

end
end Go.Sim

