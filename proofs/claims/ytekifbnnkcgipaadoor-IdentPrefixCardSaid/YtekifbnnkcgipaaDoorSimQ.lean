/- A row that the call owns, across the rounds of a loop. Conditions: none. -/
import Derived.Test.YtekifbnnkcgipaaDoorSimN
namespace Go.Sim

def renO (i j : Nat) : SV → Option SV
  | .own k => match Nat.beq k i with
    | true => some (.own j)
    | false => none
  | .d x => some (.d x)
  | .loc b o => some (.loc b o)
  | .elem sz n f k o => some (.elem sz n f k o)
  | _ => none
def renL (i j : Nat) : List (Nat × SV) → Option (List (Nat × SV))
  | [] => some []
  | (s, x) :: l => match renO i j x, renL i j l with
    | some y, some r => some ((s, y) :: r)
    | _, _ => none
theorem renL_find {i j s : Nat} {y : SV} : ∀ {l r : List (Nat × SV)}, renL i j l = some r → findB r s = some y → ∃ x, findB l s = some x ∧ renO i j x = some y
  | [], r, h, hy => by simp [renL] at h; subst h; cases hy
  | (t, x) :: l, r, h, hy => by
    simp only [renL] at h
    split at h
    · rename_i z q h1 h2
      simp only [Option.some.injEq] at h; subst h
      rw [findB_cons] at hy
      split at hy
      · rename_i e
        exact ⟨x, by rw [findB_cons, if_pos e], by rw [h1, ← hy]⟩
      · rename_i e
        obtain ⟨x', a, b⟩ := renL_find h2 hy
        exact ⟨x', by rw [findB_cons, if_neg e]; exact a, b⟩
    · cases h

/-- The slots in ss; own row i alone, under the number j. -/
def St.ren (st : St) (ss : List Nat) (i j nx : Nat) : Option St :=
  match renL i j (keepL st.sl ss), findB st.ow i, Nat.blt j nx with
  | some sl, some o, true => some ⟨st.n, sl, [], st.bx, [(j, o)], nx⟩
  | _, _, _ => none

theorem findB_one {α : Type} {j k : Nat} {o o' : α} (h : findB [(j, o)] k = some o') : k = j ∧ o' = o := by
  rw [findB_cons] at h
  split at h
  · rename_i e; exact ⟨e, (Option.some.inj h).symm⟩
  · cases h
theorem findB_one_some {α : Type} {j k : Nat} {o : α} (h : (findB [(j, o)] k).isSome = true) : k = j := by
  cases hf : findB [(j, o)] k with
  | none => rw [hf] at h; cases h
  | some o' => exact (findB_one hf).1

theorem weaker_ren {st st' : St} (ss : List Nat) (i j nx : Nat) (h : st.ren ss i j nx = some st') : Weaker st st' := by
  intro W N0 F β a w hr
  unfold St.ren at h
  split at h
  · rename_i sl o hsl ho hj
    simp only [Option.some.injEq] at h; subst h
    have hi : (findB st.ow i).isSome = true := by rw [ho]; rfl
    have hN : ∀ b, b < w.heap.size → NB N0 ⟨β.b, fun _ => β.r i⟩ st.bx [(j, o)] b → NB N0 β st.bx st.ow b := by
      rintro b _ (h0 | h1 | ⟨k, hk, hb⟩)
      · exact .inl h0
      · exact .inr (.inl h1)
      · exact .inr (.inr ⟨i, hi, hb⟩)
    refine ⟨⟨β.b, fun _ => β.r i⟩, hr.keeps, hr.size, hr.defers, fun s y hy => ?_, fun s g p x hx => (by cases hx), ?_, hr.inj, hr.own, hr.outer, ?_, fun k k' b hk hk' _ _ => ?_, fun k b hk hb => hr.obox i b hi hb, fun k hk => ?_⟩
    · obtain ⟨x, h1, h2⟩ := renL_find hsl hy
      have hx := hr.slots s x (keepL_find h1)
      cases x with
      | own k =>
        simp only [renO] at h2
        split at h2
        · rename_i hk
          simp only [Option.some.injEq] at h2; subst h2
          rw [Nat.eq_of_beq_eq_true hk] at hx
          generalize tv a s = u at *
          cases hx
          exact .own (β := ⟨β.b, fun _ => β.r i⟩) j
        · cases h2
      | d x =>
        simp only [renO, Option.some.injEq] at h2; subst h2
        generalize tv a s = u at *
        cases hx with | d hx => exact .d (hx.less hN)
      | loc b off =>
        simp only [renO, Option.some.injEq] at h2; subst h2
        generalize tv a s = u at *
        cases hx
        exact SDen.loc (β := ⟨β.b, fun _ => β.r i⟩) b off
      | elem sz n f k off =>
        simp only [renO, Option.some.injEq] at h2; subst h2
        generalize tv a s = u at *
        cases hx with | elem _ _ _ _ _ b o c hi hb hN' hsz hc ho hd => exact (SDen.elem (β := ⟨β.b, fun _ => β.r i⟩) sz n f k off b o c hi hb hN' hsz hc ho hd).less hN
      | tup l => cases h2
      | grd g p x => cases h2
    · intro k T cs hf
      obtain ⟨vs, h1, h2, h3⟩ := hr.boxes k T cs hf
      exact ⟨vs, h1, ⟨h2.1, fun q x v hx hv => (h2.2 q x v hx hv).less hN⟩, h3⟩
    · intro k o' hk
      obtain ⟨_, rfl⟩ := findB_one hk
      obtain ⟨xs, h1, h2, h3, h4⟩ := hr.owns i o' ho
      exact ⟨xs, h1, h2, fun k j x v hk hx hv => (h3 k j x v hk hx hv).less hN, h4⟩
    · rw [findB_one_some hk, findB_one_some hk']
    · rw [findB_one_some hk]; exact Nat.le_of_ble_eq_true hj
  · cases h

/-- A nil slice is an empty row that the call owns. -/
def isNilS : Option SV → Bool
  | some (.d .nil) => true
  | _ => false
def noOwnL : List (Nat × SV) → Bool
  | [] => true
  | (_, x) :: l => (match x with
    | .d _ => true
    | .loc _ _ => true
    | .elem .. => true
    | _ => false) && noOwnL l
theorem noOwnL_mem {s : Nat} {x : SV} : ∀ {l : List (Nat × SV)}, noOwnL l = true → (s, x) ∈ l → (match x with
    | .d _ => true
    | .loc _ _ => true
    | .elem .. => true
    | _ => false) = true
  | (k, y) :: l, h, hm => by
    simp only [noOwnL, Bool.and_eq_true] at h
    rcases List.mem_cons.1 hm with hm | hm
    · obtain ⟨rfl, rfl⟩ := Prod.mk.inj hm; exact h.1
    · exact noOwnL_mem h.2 hm

def St.nilO (st : St) (ss : List Nat) (s : Nat) (e : TypeId) (sz : Nat) (f : Nat → RV) : Option St :=
  match noOwnL (keepL st.sl ss), isNilS (findB st.sl s) with
  | true, true => some ⟨st.n, (s, .own 0) :: keepL st.sl ss, [], st.bx, [(0, ⟨e, sz, 0, f⟩)], 1⟩
  | _, _ => none

theorem weaker_nilO {st st' : St} (ss : List Nat) (s : Nat) (e : TypeId) (sz : Nat) (f : Nat → RV) (h : st.nilO ss s e sz f = some st') : Weaker st st' := by
  intro W N0 F β a w hr
  unfold St.nilO at h
  split at h
  · rename_i hno hs
    simp only [Option.some.injEq] at h; subst h
    have hN : ∀ b, b < w.heap.size → NB N0 ⟨β.b, fun _ => .slice none 0 0⟩ st.bx [(0, ⟨e, sz, 0, f⟩)] b → NB N0 β st.bx st.ow b := by
      rintro b _ (h0 | h1 | ⟨k, hk, hb⟩)
      · exact .inl h0
      · exact .inr (.inl h1)
      · cases hb
    refine ⟨⟨β.b, fun _ => .slice none 0 0⟩, hr.keeps, hr.size, hr.defers, fun t y hy => ?_, fun s g p x hx => (by cases hx), ?_, hr.inj, hr.own, hr.outer, ?_, fun k k' b hk hk' _ _ => ?_, fun k b hk hb hc => (by cases hc), fun k hk => ?_⟩
    · have hy : findB ((s, .own 0) :: keepL st.sl ss) t = some y := hy
      rw [findB_cons] at hy
      split at hy
      · rename_i et
        simp only [Option.some.injEq] at hy; subst hy
        unfold isNilS at hs
        split at hs
        · rename_i hfs
          have hx := hr.slots s _ hfs
          rw [et]
          generalize tv a s = u at *
          cases hx with | d hx => cases hx with
            | none => exact .own (β := ⟨β.b, fun _ => .slice none 0 0⟩) 0
        · cases hs
      · have hx := hr.slots t y (keepL_find hy)
        have hm := noOwnL_mem hno (findB_mem hy)
        generalize tv a t = u at *
        cases hx with
        | own k => cases hm
        | d hx => exact .d (hx.less hN)
        | loc b off => exact SDen.loc (β := ⟨β.b, fun _ => .slice none 0 0⟩) b off
        | elem sz n f k off b o c hi hb hN' hsz hc ho hd => exact (SDen.elem (β := ⟨β.b, fun _ => .slice none 0 0⟩) sz n f k off b o c hi hb hN' hsz hc ho hd).less hN
        | tup => cases hm
    · intro k T cs hf
      obtain ⟨vs, h1, h2, h3⟩ := hr.boxes k T cs hf
      exact ⟨vs, h1, ⟨h2.1, fun q x v hx hv => (h2.2 q x v hx hv).less hN⟩, h3⟩
    · intro k o' hk
      obtain ⟨_, rfl⟩ := findB_one hk
      exact ⟨[], World.ownsRow_nil _ _ _ _, fun k hk => absurd hk (Nat.not_lt_zero k), fun k j x v hk => absurd hk (Nat.not_lt_zero k), fun v hv => (by cases hv)⟩
    · rw [findB_one_some hk, findB_one_some hk']
    · rw [findB_one_some hk]; exact Nat.zero_lt_one
  · cases h

/-- The owned row said otherwise. -/
theorem weaker_row {n : Nat} {sl : List (Nat × SV)} {bx : List (Nat × TypeId × List RV)} {j nx : Nat} {e : TypeId} {sz m m' : Nat} {f f' : Nat → RV} (hm : m = m') (hf : ∀ k, k < m → f k = f' k) :
    Weaker ⟨n, sl, [], bx, [(j, ⟨e, sz, m, f⟩)], nx⟩ ⟨n, sl, [], bx, [(j, ⟨e, sz, m', f'⟩)], nx⟩ := by
  subst hm
  intro W N0 F β a w hr
  have hso : ∀ k, (findB [(j, (⟨e, sz, m, f'⟩ : Own))] k).isSome = true → (findB [(j, (⟨e, sz, m, f⟩ : Own))] k).isSome = true := fun k hk => by
    rw [findB_one_some hk, findB_cons, if_pos rfl]; rfl
  have hN : ∀ b, b < w.heap.size → NB N0 β bx [(j, ⟨e, sz, m, f'⟩)] b → NB N0 β bx [(j, ⟨e, sz, m, f⟩)] b := by
    rintro b _ (h0 | h1 | ⟨k, hk, hb⟩)
    · exact .inl h0
    · exact .inr (.inl h1)
    · exact .inr (.inr ⟨k, hso k hk, hb⟩)
  refine ⟨β, hr.keeps, hr.size, hr.defers, fun s y hy => (hr.slots s y hy).less hN, fun s g p x hx => (by cases hx), ?_, hr.inj, hr.own, hr.outer, ?_, fun k k' b hk hk' => hr.odist k k' b (hso k hk) (hso k' hk'), fun k b hk hb => hr.obox k b (hso k hk) hb, fun k hk => hr.onx k (hso k hk)⟩
  · intro k T cs hf
    obtain ⟨vs, h1, h2, h3⟩ := hr.boxes k T cs hf
    exact ⟨vs, h1, ⟨h2.1, fun q x v hx hv => (h2.2 q x v hx hv).less hN⟩, h3⟩
  · intro k o' hk
    obtain ⟨rfl, rfl⟩ := findB_one hk
    obtain ⟨xs, h1, h2, h3, h4⟩ := hr.owns k ⟨e, sz, m, f⟩ (by rw [findB_cons, if_pos rfl])
    exact ⟨xs, h1, fun q hq => (by
      show (f' q).cells.length = sz
      rw [← hf q hq]; exact h2 q hq), fun q i x v hq hx hv => (h3 q i x v hq (by
      show (f q).cells[i]? = some x
      rw [hf q hq]; exact hx) hv).less hN, h4⟩

/-- Without the boxes in ds, where no entry that is left names them. -/
def St.noBox (st : St) (ds : List Nat) : Option St :=
  match st.gl, ds.all (fun d => noName d st.sl) with
  | [], true => some ⟨st.n, st.sl, [], dropB ds st.bx, st.ow, st.nx⟩
  | _, _ => none

theorem findB_dropB' {ds : List Nat} {i : Nat} {c : TypeId × List RV} : ∀ {l : List (Nat × TypeId × List RV)}, findB (dropB ds l) i = some c → i ∉ ds ∧ findB l i = some c
  | (k, x) :: l, h => by
    simp only [dropB] at h
    split at h
    · rename_i hk
      obtain ⟨h1, h2⟩ := findB_dropB' h
      refine ⟨h1, ?_⟩
      rw [findB_cons, if_neg (fun e => h1 (by rw [e]; exact List.elem_iff.1 hk))]; exact h2
    · rename_i hk
      rw [findB_cons] at h
      split at h
      · rename_i e
        subst e
        exact ⟨fun hm => (by rw [List.elem_iff.2 hm] at hk; cases hk), by rw [findB_cons, if_pos rfl]; exact h⟩
      · rename_i e
        obtain ⟨h1, h2⟩ := findB_dropB' h
        exact ⟨h1, by rw [findB_cons, if_neg e]; exact h2⟩

theorem weaker_noBox {st st' : St} (ds : List Nat) (h : st.noBox ds = some st') : Weaker st st' := by
  intro W N0 F β a w hr
  unfold St.noBox at h
  split at h
  · simp only [Option.some.injEq] at h; subst h
    have hso : ∀ i, (findB (dropB ds st.bx) i).isSome = true → (findB st.bx i).isSome = true := fun i hi => by
      cases hf : findB (dropB ds st.bx) i with
      | none => rw [hf] at hi; cases hi
      | some c => rw [(findB_dropB' hf).2]; rfl
    have hN : ∀ b, b < w.heap.size → NB N0 β (dropB ds st.bx) st.ow b → NB N0 β st.bx st.ow b := by
      rintro b _ (h0 | ⟨i, hi, hb⟩ | h1)
      · exact .inl h0
      · exact .inr (.inl ⟨i, hso i hi, hb⟩)
      · exact .inr (.inr h1)
    refine ⟨β, hr.keeps, hr.size, hr.defers, fun s y hy => (hr.slots s y hy).less hN, fun s g p x hx => (by cases hx), ?_, fun i j hi hj => hr.inj i j (hso i hi) (hso j hj), fun i hi => hr.own i (hso i hi), hr.outer, hr.owns.less hN, hr.odist, fun k b hk hb => hr.obox k b hk (hso b hb), hr.onx⟩
    intro k T cs hf
    obtain ⟨vs, h1, h2, h3⟩ := hr.boxes k T cs (findB_dropB' hf).2
    exact ⟨vs, h1, ⟨h2.1, fun q x v hx hv => (h2.2 q x v hx hv).less hN⟩, h3⟩
  · cases h

end Go.Sim
