/- Arguments that are instructions or trades, as the interpreter sees them. Conditions: none. -/
import Derived.Test.YtekifbnnkcgipaaDoorRow
import Derived.Test.YtekifbnnkcgipaaDoorMsJ
import Derived.Deep.SlicePairs
import Derived.Deep.Fields
namespace Go.Proofs.YtekifbnnkcgipaaDoor
open Go.ChangeShapes Go.WideShapes Go.RowKit Go.Deep
set_option maxRecDepth 100000

section
variable {H : Type} {enc : TypeId × Value → H} {W : World} {base : Nat}
theorem open_fields {t : TypeId} {fs : Array Field} {v : Value} {d : DataW H} {p : List MemPlace} (hs : Tryd.prog.underlying t = some (.struct fs)) (hone : oneCellFields Tryd.prog fs = true) (hC : Tryd.prog.cellsOf t = fs.size)
    (hv : Value.okWide Tryd.prog W .any base t v) (h : DataW.Trod enc Tryd.prog W 0 (fun _ => true) true t v d p) :
    ∃ (cs : Array Value) (n : Nat), v = .agg cs ∧ cs.size = fs.size ∧ Row.okWide Tryd.prog W .any base t cs ∧ ∀ (i : Nat) (f : Field) (u : Value), fs[i]? = some f → cs[i]? = some u → ∃ y, DataW.trod enc Tryd.prog W 0 (fun _ => true) true n f.type [u] = some y := by
  simp only [Value.okWide, hs] at hv
  obtain ⟨cs, rfl, hsz, hrow⟩ := hv
  obtain ⟨fuel, hf⟩ := h
  obtain ⟨xs, n, _, _, _, hxl, hfs⟩ := DataW.trod_struct hs hf
  refine ⟨cs, n, rfl, hsz.trans hC, hrow, fun i f u hi hu => ?_⟩
  obtain ⟨o, k⟩ := hone_of hone i f hi
  have g := hfs i f hi
  have hlt : i < fs.size := (Array.getElem?_eq_some_iff.1 hi).1
  have hl : i < cs.toList.length := by rw [Array.length_toList, hsz, hC]; exact hlt
  rw [o, k] at g
  have e : ((Value.agg cs).cells.toList.drop i).take 1 = [u] := by
    show (cs.toList.drop i).take 1 = [u]
    rw [take1_drop cs.toList i u hl]
    have : cs.toList[i]? = some u := by simpa using hu
    simp [List.getD_eq_getElem?_getD, this]
  rw [e] at g
  rw [List.getElem?_eq_getElem (by omega)] at g
  exact ⟨_, g⟩
theorem shape_lt {b : Nat} {x : TypeId × Nat} (h : W.shape? b = some x) : b < W.heap.size := by
  unfold World.shape? at h
  cases hb : W.heap[b]? with
  | none => simp [hb] at h
  | some o => exact (Array.getElem?_eq_some_iff.1 hb).1
/-- A slice of links, as a row. -/
theorem links_den {t e : TypeId} {f0 f1 : Field} {n : Nat} {u : Value} {y : DataW H × List MemPlace} (ht : Tryd.prog.underlying t = some (.slice e)) (he : Tryd.prog.underlying e = some (.struct #[f0, f1]))
    (ce : Tryd.prog.cellsOf e = 2) (o0 : f0.offset = 0) (o1 : f1.offset = 1) (c0 : Tryd.prog.cellsOf f0.type = 1) (c1 : Tryd.prog.cellsOf f1.type = 1) (t0 : Tryd.prog.underlying f0.type = some (.int .i64)) (t1 : Tryd.prog.underlying f1.type = some .string)
    (hok : Cell.okWide Tryd.prog W .any base t u) (h : DataW.trod enc Tryd.prog W 0 (fun _ => true) true n t [u] = some y) :
    ∃ (k : Nat) (f : Nat → Sim.RV), okLinks k f ∧ Sim.RDen (fun _ => False) W (.row 2 k f) u := by
  rcases open_slice_pairs ht he ce o0 o1 c0 c1 h with ⟨hc, _⟩ | ⟨a, len, cap, m, n', V0, V1, D0, D1, P0, P1, hc, _, hlen, _, hm, _, hx⟩
  · simp only [List.cons.injEq, and_true] at hc
    subst hc
    exact ⟨0, fun _ => .nil, fun k hk => absurd hk (Nat.not_lt_zero k), .nil 2 _⟩
  · simp only [List.cons.injEq, and_true] at hc
    subst hc
    have hm' : m = cap := by simpa using hm
    subst hm'
    simp only [Cell.okWide, ht, Cell.ok] at hok
    obtain ⟨_, _, _, hspot, ⟨row, cells, hsh, _⟩⟩ := hok
    obtain ⟨b, o, spot⟩ := a
    simp only at hspot hsh
    subst hspot
    have ex : ∀ i, i < m → ∃ q : Int × ByteArray, W.cell? ⟨b, o + (i * 2), none⟩ = some (.int .i64 q.1) ∧ W.cell? ⟨b, o + (i * 2 + 1), none⟩ = some (.string q.2) := by
      intro i hi
      obtain ⟨h1, h2, h3, h4⟩ := hx i hi
      obtain ⟨z, hz, _, _⟩ := DataW.trod_int t0 h3
      obtain ⟨s, hs, _, _⟩ := DataW.trod_string t1 h4
      simp only [List.cons.injEq, and_true] at hz hs
      rw [hz] at h1
      rw [hs] at h2
      refine ⟨(z, s), ?_, ?_⟩
      · unfold Addr.add at h1
        by_cases hi0 : i * 2 = 0
        · simpa [hi0] using h1
        · simpa [hi0] using h1
      · unfold Addr.add at h2
        simpa using h2
    obtain ⟨q, hq⟩ := choose_lt ex
    refine ⟨len, fun k => lkRV (q k).1 (q k).2, fun k _ => rfl, ?_⟩
    refine .row 2 len _ b o m (fun k j => match j with | 0 => .int .i64 (q k).1 | _ => .string (q k).2) hlen (shape_lt hsh) (fun h => h) (fun k _ => rfl) (fun k j hk hj => ?_) (fun k j _ _ => ?_) (fun k j x hk hx => ?_)
    · match j, hj with
      | 0, _ => exact (hq k (by omega)).1
      | 1, _ => exact (hq k (by omega)).2
    · match j with
      | 0 => rfl
      | j + 1 => rfl
    · match j, hx with
      | 0, hx => simp [lkRV, Sim.RV.cells] at hx; subst hx; exact .val _
      | 1, hx => simp [lkRV, Sim.RV.cells] at hx; subst hx; exact .val _
theorem open_ins {v : Value} {d : DataW H} {p : List MemPlace} (hv : Value.okWide Tryd.prog W .any base 45 v) (h : DataW.Trod enc Tryd.prog W 0 (fun _ => true) true 45 v d p) :
    ∃ i : Ins, i.wf ∧ Sim.RDen (fun _ => False) W i.rv v := by
  obtain ⟨⟨l⟩, n, rfl, hsz, ⟨ts, hts, _, hcell⟩, hf⟩ := open_fields Tryd.underlying45 (by kernel_rfl) (by kernel_rfl) hv h
  have hts' : ts = [9, 3, 9, 9, 3, 9, 2, 2, 3, 3, 3, 4, 2, 4, 4, 43] := Option.some.inj (hts.symm.trans (show Tryd.prog.cellTypes Tryd.prog.depth 45 = some [9, 3, 9, 9, 3, 9, 2, 2, 3, 3, 3, 4, 2, 4, 4, 43] by kernel_rfl))
  match l, hsz with
  | [c0, c1, c2, c3, c4, c5, c6, c7, c8, c9, c10, c11, c12, c13, c14, c15], _ =>
    obtain ⟨y0, h0⟩ := hf 0 _ c0 rfl rfl
    obtain ⟨z0, e0, _, _⟩ := DataW.trod_string Tryd.underlying9 h0
    obtain rfl : c0 = .string z0 := by simpa using e0
    obtain ⟨y1, h1⟩ := hf 1 _ c1 rfl rfl
    obtain ⟨z1, e1, _, _⟩ := DataW.trod_int Tryd.underlying3 h1
    obtain rfl : c1 = .int .i64 z1 := by simpa using e1
    obtain ⟨y2, h2⟩ := hf 2 _ c2 rfl rfl
    obtain ⟨z2, e2, _, _⟩ := DataW.trod_string Tryd.underlying9 h2
    obtain rfl : c2 = .string z2 := by simpa using e2
    obtain ⟨y3, h3⟩ := hf 3 _ c3 rfl rfl
    obtain ⟨z3, e3, _, _⟩ := DataW.trod_string Tryd.underlying9 h3
    obtain rfl : c3 = .string z3 := by simpa using e3
    obtain ⟨y4, h4⟩ := hf 4 _ c4 rfl rfl
    obtain ⟨z4, e4, _, _⟩ := DataW.trod_int Tryd.underlying3 h4
    obtain rfl : c4 = .int .i64 z4 := by simpa using e4
    obtain ⟨y5, h5⟩ := hf 5 _ c5 rfl rfl
    obtain ⟨z5, e5, _, _⟩ := DataW.trod_string Tryd.underlying9 h5
    obtain rfl : c5 = .string z5 := by simpa using e5
    obtain ⟨y6, h6⟩ := hf 6 _ c6 rfl rfl
    obtain ⟨z6, e6, _, _⟩ := DataW.trod_int Tryd.underlying2 h6
    obtain rfl : c6 = .int .i64 z6 := by simpa using e6
    obtain ⟨y7, h7⟩ := hf 7 _ c7 rfl rfl
    obtain ⟨z7, e7, _, _⟩ := DataW.trod_int Tryd.underlying2 h7
    obtain rfl : c7 = .int .i64 z7 := by simpa using e7
    obtain ⟨y8, h8⟩ := hf 8 _ c8 rfl rfl
    obtain ⟨z8, e8, _, _⟩ := DataW.trod_int Tryd.underlying3 h8
    obtain rfl : c8 = .int .i64 z8 := by simpa using e8
    obtain ⟨y9, h9⟩ := hf 9 _ c9 rfl rfl
    obtain ⟨z9, e9, _, _⟩ := DataW.trod_int Tryd.underlying3 h9
    obtain rfl : c9 = .int .i64 z9 := by simpa using e9
    obtain ⟨y10, h10⟩ := hf 10 _ c10 rfl rfl
    obtain ⟨z10, e10, _, _⟩ := DataW.trod_int Tryd.underlying3 h10
    obtain rfl : c10 = .int .i64 z10 := by simpa using e10
    obtain ⟨y11, h11⟩ := hf 11 _ c11 rfl rfl
    obtain ⟨z11, e11, _⟩ := DataW.trod_bool Tryd.underlying4 h11
    obtain rfl : c11 = .bool z11 := by simpa using e11
    obtain ⟨y12, h12⟩ := hf 12 _ c12 rfl rfl
    obtain ⟨z12, e12, _, _⟩ := DataW.trod_int Tryd.underlying2 h12
    obtain rfl : c12 = .int .i64 z12 := by simpa using e12
    obtain ⟨y13, h13⟩ := hf 13 _ c13 rfl rfl
    obtain ⟨z13, e13, _⟩ := DataW.trod_bool Tryd.underlying4 h13
    obtain rfl : c13 = .bool z13 := by simpa using e13
    obtain ⟨y14, h14⟩ := hf 14 _ c14 rfl rfl
    obtain ⟨z14, e14, _⟩ := DataW.trod_bool Tryd.underlying4 h14
    obtain rfl : c14 = .bool z14 := by simpa using e14
    obtain ⟨y15, h15⟩ := hf 15 _ c15 rfl rfl
    obtain ⟨u, hu, hok⟩ := hcell 15 c15 rfl
    rw [hts'] at hu
    obtain rfl : u = 43 := by simpa using hu.symm
    obtain ⟨k, f, hk, hd⟩ := links_den Tryd.underlying43 Tryd.underlying121 (by kernel_rfl) rfl rfl (by kernel_rfl) (by kernel_rfl) Tryd.underlying3 Tryd.underlying9 hok h15
    refine ⟨⟨z0, z1, z2, z3, z4, z5, z6, z7, z8, z9, z10, z11, z12, z13, z14, k, f⟩, hk, .agg _ _ rfl fun j x w hx hw => ?_⟩
    match j, hx, hw with
    | 0, hx, hw => simp at hx hw; subst hx; subst hw; exact .val _
    | 1, hx, hw => simp at hx hw; subst hx; subst hw; exact .val _
    | 2, hx, hw => simp at hx hw; subst hx; subst hw; exact .val _
    | 3, hx, hw => simp at hx hw; subst hx; subst hw; exact .val _
    | 4, hx, hw => simp at hx hw; subst hx; subst hw; exact .val _
    | 5, hx, hw => simp at hx hw; subst hx; subst hw; exact .val _
    | 6, hx, hw => simp at hx hw; subst hx; subst hw; exact .val _
    | 7, hx, hw => simp at hx hw; subst hx; subst hw; exact .val _
    | 8, hx, hw => simp at hx hw; subst hx; subst hw; exact .val _
    | 9, hx, hw => simp at hx hw; subst hx; subst hw; exact .val _
    | 10, hx, hw => simp at hx hw; subst hx; subst hw; exact .val _
    | 11, hx, hw => simp at hx hw; subst hx; subst hw; exact .val _
    | 12, hx, hw => simp at hx hw; subst hx; subst hw; exact .val _
    | 13, hx, hw => simp at hx hw; subst hx; subst hw; exact .val _
    | 14, hx, hw => simp at hx hw; subst hx; subst hw; exact .val _
    | 15, hx, hw => simp at hx hw; subst hx; subst hw; exact hd
theorem cells_1 {x0 : Sim.RV} {v0 : Value} (h0 : Sim.RDen (fun _ => False) W x0 v0) : Sim.Cells (fun _ => False) W [x0] [v0] := by
  refine ⟨rfl, fun j x v hx hv => ?_⟩
  match j, hx, hv with
  | 0, hx, hv => simp at hx hv; subst hx; subst hv; exact h0
theorem cells_3 {x0 x1 x2 : Sim.RV} {v0 v1 v2 : Value} (h0 : Sim.RDen (fun _ => False) W x0 v0) (h1 : Sim.RDen (fun _ => False) W x1 v1) (h2 : Sim.RDen (fun _ => False) W x2 v2) : Sim.Cells (fun _ => False) W [x0, x1, x2] [v0, v1, v2] := by
  refine ⟨rfl, fun j x v hx hv => ?_⟩
  match j, hx, hv with
  | 0, hx, hv => simp at hx hv; subst hx; subst hv; exact h0
  | 1, hx, hv => simp at hx hv; subst hx; subst hv; exact h1
  | 2, hx, hv => simp at hx hv; subst hx; subst hv; exact h2
end
end Go.Proofs.YtekifbnnkcgipaaDoor
