/- Arguments that are trades or pairs of numbers, as the interpreter sees them. Conditions: none. -/
import Derived.Test.YtekifbnnkcgipaaDoorRowI
namespace Go.Proofs.YtekifbnnkcgipaaDoor
open Go.ChangeShapes Go.WideShapes Go.RowKit Go.Deep
set_option maxRecDepth 100000

section
variable {H : Type} {enc : TypeId × Value → H} {W : World} {base : Nat}
theorem some_of_len {α : Type} {l : List α} {n i : Nat} (hl : l.length = n) (hi : i < n) : ∃ y, l[i]? = some y := ⟨_, List.getElem?_eq_getElem (by omega)⟩
theorem open_pair {v : Value} {d : DataW H} {p : List MemPlace} (hv : Value.okWide Tryd.prog W .any base 67 v) (h : DataW.Trod enc Tryd.prog W 0 (fun _ => true) true 67 v d p) :
    ∃ a b : Int, Sim.RDen (fun _ => False) W (.agg [vI a, vI b]) v := by
  simp only [Value.okWide, Tryd.underlying67] at hv
  obtain ⟨⟨l⟩, rfl, hsz, _⟩ := hv
  have hC : Tryd.prog.cellsOf 67 = 2 := by kernel_rfl
  rw [hC] at hsz
  obtain ⟨fuel, hf⟩ := h
  obtain ⟨xs, n, _, _, _, hxl, hfs⟩ := DataW.trod_array Tryd.underlying67 hf
  match l, hsz with
  | [c0, c1], _ =>
    obtain ⟨y0, x0⟩ := some_of_len hxl (show 0 < 2 by decide)
    obtain ⟨y1, x1⟩ := some_of_len hxl (show 1 < 2 by decide)
    have g0 : DataW.trod enc Tryd.prog W 0 (fun _ => true) true n 2 [c0] = xs[0]? := Eq.mp (by kernel_rfl) (hfs 0 (by decide))
    have g1 : DataW.trod enc Tryd.prog W 0 (fun _ => true) true n 2 [c1] = xs[1]? := Eq.mp (by kernel_rfl) (hfs 1 (by decide))
    obtain ⟨z0, e0, _, _⟩ := DataW.trod_int Tryd.underlying2 (g0.trans x0)
    obtain ⟨z1, e1, _, _⟩ := DataW.trod_int Tryd.underlying2 (g1.trans x1)
    obtain rfl : c0 = .int .i64 z0 := by simpa using e0
    obtain rfl : c1 = .int .i64 z1 := by simpa using e1
    refine ⟨z0, z1, .agg _ _ rfl fun j x w hx hw => ?_⟩
    match j, hx, hw with
    | 0, hx, hw => simp at hx hw; subst hx; subst hw; exact .val _
    | 1, hx, hw => simp at hx hw; subst hx; subst hw; exact .val _
theorem open_trd {v : Value} {d : DataW H} {p : List MemPlace} (hv : Value.okWide Tryd.prog W .any base 63 v) (h : DataW.Trod enc Tryd.prog W 0 (fun _ => true) true 63 v d p) :
    ∃ t : Trd, Sim.RDen (fun _ => False) W t.rv v := by
  simp only [Value.okWide, Tryd.underlying63] at hv
  obtain ⟨⟨l⟩, rfl, hsz, _⟩ := hv
  have hC : Tryd.prog.cellsOf 63 = 13 := by kernel_rfl
  rw [hC] at hsz
  obtain ⟨fuel, hf⟩ := h
  obtain ⟨xs, n, _, _, _, hxl', hfs⟩ := DataW.trod_struct Tryd.underlying63 hf
  have hxl : xs.length = 12 := hxl'.trans (by kernel_rfl)
  match l, hsz with
  | [c0, c1, c2, c3, c4, c5, c6, c7, c8, c9, c10, c11, c12], _ =>
    obtain ⟨y0, x0⟩ := some_of_len hxl (show 0 < 12 by decide)
    have g0 : DataW.trod enc Tryd.prog W 0 (fun _ => true) true n 3 [c0] = xs[0]? := Eq.mp (by kernel_rfl) (hfs 0 _ rfl)
    obtain ⟨z0, e0, _, _⟩ := DataW.trod_int Tryd.underlying3 (g0.trans x0)
    obtain rfl : c0 = .int .i64 z0 := by simpa using e0
    obtain ⟨y1, x1⟩ := some_of_len hxl (show 1 < 12 by decide)
    have g1 : DataW.trod enc Tryd.prog W 0 (fun _ => true) true n 9 [c1] = xs[1]? := Eq.mp (by kernel_rfl) (hfs 1 _ rfl)
    obtain ⟨z1, e1, _, _⟩ := DataW.trod_string Tryd.underlying9 (g1.trans x1)
    obtain rfl : c1 = .string z1 := by simpa using e1
    obtain ⟨y2, x2⟩ := some_of_len hxl (show 2 < 12 by decide)
    have g2 : DataW.trod enc Tryd.prog W 0 (fun _ => true) true n 9 [c2] = xs[2]? := Eq.mp (by kernel_rfl) (hfs 2 _ rfl)
    obtain ⟨z2, e2, _, _⟩ := DataW.trod_string Tryd.underlying9 (g2.trans x2)
    obtain rfl : c2 = .string z2 := by simpa using e2
    obtain ⟨y3, x3⟩ := some_of_len hxl (show 3 < 12 by decide)
    have g3 : DataW.trod enc Tryd.prog W 0 (fun _ => true) true n 9 [c3] = xs[3]? := Eq.mp (by kernel_rfl) (hfs 3 _ rfl)
    obtain ⟨z3, e3, _, _⟩ := DataW.trod_string Tryd.underlying9 (g3.trans x3)
    obtain rfl : c3 = .string z3 := by simpa using e3
    obtain ⟨y4, x4⟩ := some_of_len hxl (show 4 < 12 by decide)
    have g4 : DataW.trod enc Tryd.prog W 0 (fun _ => true) true n 2 [c4] = xs[4]? := Eq.mp (by kernel_rfl) (hfs 4 _ rfl)
    obtain ⟨z4, e4, _, _⟩ := DataW.trod_int Tryd.underlying2 (g4.trans x4)
    obtain rfl : c4 = .int .i64 z4 := by simpa using e4
    obtain ⟨y5, x5⟩ := some_of_len hxl (show 5 < 12 by decide)
    have g5 : DataW.trod enc Tryd.prog W 0 (fun _ => true) true n 2 [c5] = xs[5]? := Eq.mp (by kernel_rfl) (hfs 5 _ rfl)
    obtain ⟨z5, e5, _, _⟩ := DataW.trod_int Tryd.underlying2 (g5.trans x5)
    obtain rfl : c5 = .int .i64 z5 := by simpa using e5
    obtain ⟨y6, x6⟩ := some_of_len hxl (show 6 < 12 by decide)
    have g6 : DataW.trod enc Tryd.prog W 0 (fun _ => true) true n 3 [c6] = xs[6]? := Eq.mp (by kernel_rfl) (hfs 6 _ rfl)
    obtain ⟨z6, e6, _, _⟩ := DataW.trod_int Tryd.underlying3 (g6.trans x6)
    obtain rfl : c6 = .int .i64 z6 := by simpa using e6
    obtain ⟨y7, x7⟩ := some_of_len hxl (show 7 < 12 by decide)
    have g7 : DataW.trod enc Tryd.prog W 0 (fun _ => true) true n 3 [c7] = xs[7]? := Eq.mp (by kernel_rfl) (hfs 7 _ rfl)
    obtain ⟨z7, e7, _, _⟩ := DataW.trod_int Tryd.underlying3 (g7.trans x7)
    obtain rfl : c7 = .int .i64 z7 := by simpa using e7
    obtain ⟨y8, x8⟩ := some_of_len hxl (show 8 < 12 by decide)
    have g8 : DataW.trod enc Tryd.prog W 0 (fun _ => true) true n 3 [c8] = xs[8]? := Eq.mp (by kernel_rfl) (hfs 8 _ rfl)
    obtain ⟨z8, e8, _, _⟩ := DataW.trod_int Tryd.underlying3 (g8.trans x8)
    obtain rfl : c8 = .int .i64 z8 := by simpa using e8
    obtain ⟨y9, x9⟩ := some_of_len hxl (show 9 < 12 by decide)
    have g9 : DataW.trod enc Tryd.prog W 0 (fun _ => true) true n 4 [c9] = xs[9]? := Eq.mp (by kernel_rfl) (hfs 9 _ rfl)
    obtain ⟨z9, e9, _⟩ := DataW.trod_bool Tryd.underlying4 (g9.trans x9)
    obtain rfl : c9 = .bool z9 := by simpa using e9
    obtain ⟨y10, x10⟩ := some_of_len hxl (show 10 < 12 by decide)
    have g10 : DataW.trod enc Tryd.prog W 0 (fun _ => true) true n 2 [c10] = xs[10]? := Eq.mp (by kernel_rfl) (hfs 10 _ rfl)
    obtain ⟨z10, e10, _, _⟩ := DataW.trod_int Tryd.underlying2 (g10.trans x10)
    obtain rfl : c10 = .int .i64 z10 := by simpa using e10
    obtain ⟨y11, x11⟩ := some_of_len hxl (show 11 < 12 by decide)
    have g11 : DataW.trod enc Tryd.prog W 0 (fun _ => true) true n 58 [c11, c12] = xs[11]? := Eq.mp (by kernel_rfl) (hfs 11 _ rfl)
    obtain ⟨xr, m, _, _, _, hrl, hrs⟩ := DataW.trod_array Tryd.underlying58 (g11.trans x11)
    obtain ⟨y12, x12⟩ := some_of_len hrl (show 0 < 2 by decide)
    obtain ⟨y13, x13⟩ := some_of_len hrl (show 1 < 2 by decide)
    have g12 : DataW.trod enc Tryd.prog W 0 (fun _ => true) true m 9 [c11] = xr[0]? := Eq.mp (by kernel_rfl) (hrs 0 (by decide))
    have g13 : DataW.trod enc Tryd.prog W 0 (fun _ => true) true m 9 [c12] = xr[1]? := Eq.mp (by kernel_rfl) (hrs 1 (by decide))
    obtain ⟨z11, e11, _, _⟩ := DataW.trod_string Tryd.underlying9 (g12.trans x12)
    obtain ⟨z12, e12, _, _⟩ := DataW.trod_string Tryd.underlying9 (g13.trans x13)
    obtain rfl : c11 = .string z11 := by simpa using e11
    obtain rfl : c12 = .string z12 := by simpa using e12
    refine ⟨⟨z0, z1, z2, z3, z4, z5, z6, z7, z8, z9, z10, z11, z12⟩, .agg _ _ rfl fun j x w hx hw => ?_⟩
    match j, hx, hw with
    | 0, hx, hw => simp at hx hw; subst hx; subst hw; exact .val _
    | 1, hx, hw => simp at hx hw; subst hx; subst hw; exact .val _
    | 2, hx, hw => simp at hx hw; subst hx; subst hw; exact .val _
    | 3, hx, hw => simp at hx hw; subst hx; subst hw; exact .val _
    | 4, hx, hw => simp at hx hw; subst hx; subst hw; exact .val _
    | 5, hx, hw => simp at hx hw; subst hx; subst hw; exact .val _
    | 6, hx, hw => simp at hx hw; subst hx; subst hw; exact .val _
    | 7, hx, hw => simp at hx hw; subst hx; subst hw; exact .val _
    | 8, hx, hw => simp at hx hw; subst hx; subst hw; exact .val _
    | 9, hx, hw => simp at hx hw; subst hx; subst hw; exact .val _
    | 10, hx, hw => simp at hx hw; subst hx; subst hw; exact .val _
    | 11, hx, hw => simp at hx hw; subst hx; subst hw; exact .val _
    | 12, hx, hw => simp at hx hw; subst hx; subst hw; exact .val _
end
end Go.Proofs.YtekifbnnkcgipaaDoor
