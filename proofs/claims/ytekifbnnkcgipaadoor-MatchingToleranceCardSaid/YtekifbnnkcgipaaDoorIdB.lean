/- Contracts of giro/ident's kinds, classes and prefix. Conditions: none beyond those that are stated. -/
import Derived.Test.YtekifbnnkcgipaaDoorIdA
namespace Go.Proofs.YtekifbnnkcgipaaDoor
open Go.Sim

/-- A slice of the given elements. -/
def listRow (sz : Nat) (l : List RV) : RV := .row sz l.length (fun k => l.getD k default)
def clsRV (g : FuncId) : RV := .val (.func (.func g) #[] #[])
def spanRV (x : Nat × FuncId) : RV := .agg [.val (.int .i64 x.1), clsRV x.2]
def flatS : List (Nat × FuncId) → List FuncId
  | [] => []
  | (n, g) :: l => List.replicate n g ++ flatS l
def clRow (out : List FuncId) (k : Nat) : RV := clsRV (out.getD k 0)
def spArr (sp : List (Nat × FuncId)) : RV := .row 2 sp.length (fun k => spanRV (sp.getD k (0, 0)))

def outerSt (sp : List (Nat × FuncId)) (i : Int) (out : List FuncId) : St :=
  ⟨25, [(3, .own 0), (7, .d (spArr sp)), (8, .d (.val (.int .i64 sp.length))), (9, .d (.val (.int .i64 i)))], [], [], [(0, ⟨145, 1, out.length, clRow out⟩)], 1⟩

def innerSt (sp : List (Nat × FuncId)) (i j : Int) (n : Nat) (g : FuncId) (out : List FuncId) : St :=
  ⟨25, [(3, .own 0), (5, .loc 5 0), (7, .d (spArr sp)), (8, .d (.val (.int .i64 sp.length))), (9, .d (.val (.int .i64 i))), (14, .d (.val (.int .i64 n))), (15, .d (.val (.int .i64 j)))], [],
    [(5, 147, [.d (.val (.int .i64 n)), .d (clsRV g)])], [(0, ⟨145, 1, out.length, clRow out⟩)], 1⟩

theorem flatS_take (sp : List (Nat × FuncId)) : ∀ k, k < sp.length → flatS (sp.take (k + 1)) = flatS (sp.take k) ++ List.replicate (sp.getD k (0, 0)).1 (sp.getD k (0, 0)).2 := by
  induction sp with
  | nil => intro k h; simp at h
  | cons x l ih =>
    intro k h
    obtain ⟨n, g⟩ := x
    cases k with
    | zero => simp [flatS]
    | succ k => simp only [List.take_succ_cons, flatS, List.getD_cons_succ, List.append_assoc]; rw [ih k (by simpa using h)]
theorem flatS_take_le (sp : List (Nat × FuncId)) : ∀ k, (flatS (sp.take k)).length ≤ (flatS sp).length := by
  induction sp with
  | nil => intro k; simp
  | cons x l ih =>
    intro k
    obtain ⟨n, g⟩ := x
    cases k with
    | zero => simp [flatS]
    | succ k => simp only [List.take_succ_cons, flatS, List.length_append]; have := ih k; omega
theorem clRow_push (out : List FuncId) (g : FuncId) (k : Nat) (h : k < out.length + 1) : joinF out.length (clRow out) (fun k => [clsRV g].getD k default) k = clRow (out ++ [g]) k := by
  unfold joinF clRow
  cases hb : Nat.blt k out.length with
  | true =>
    have hlt : k < out.length := Nat.le_of_ble_eq_true hb
    simp [List.getD_eq_getElem?_getD, List.getElem?_append_left hlt]
  | false =>
    have hge : ¬ k < out.length := fun hlt => by rw [show Nat.blt k out.length = true from Nat.ble_eq_true_of_le hlt] at hb; cases hb
    have : k = out.length := by omega
    subst this
    simp [List.getD_eq_getElem?_getD]

theorem i64_nat (n : Nat) (h : n ≤ 1000000000000000000) : IntKind.i64.wrap (n : Int) = n := IntWalk.i64_in _ ⟨by omega, by omega⟩
theorem i64_succ (n : Nat) (h : n ≤ 1000000000000000000) : IntKind.i64.wrap ((n : Int) + 1) = ((n + 1 : Nat) : Int) := by
  rw [IntWalk.i64_in _ ⟨by omega, by omega⟩]; omega

theorem cl_push {sp : List (Nat × FuncId)} {i j : Int} {n : Nat} {g : FuncId} {out : List FuncId} {s : St}
    (h : s.ren [3, 5, 7, 8, 9, 14, 15] 1 0 1 = some ⟨25, (innerSt sp i j n g out).sl, [], (innerSt sp i j n g out).bx, [(0, ⟨145, 1, out.length + 1, joinF out.length (clRow out) (fun k => [clsRV g].getD k default)⟩)], 1⟩) :
    Weaker s (innerSt sp i j n g (out ++ [g])) :=
  (weaker_ren [3, 5, 7, 8, 9, 14, 15] 1 0 1 h).trans (weaker_row (by simp) fun k hk => clRow_push out g k hk)

/-- The body of a loop: the n-th in the text. -/
def loopsOf : Code → List Code
  | .seq x y => loopsOf x ++ loopsOf y
  | .cond _ x y => loopsOf x ++ loopsOf y
  | .block _ x => loopsOf x
  | .loop x => x :: loopsOf x
  | _ => []
def loopAt (fn : Func) (n : Nat) : Code := (loopsOf (bodyOf fn)).getD n .skip

def outerI (sp : List (Nat × FuncId)) (m : Nat) (st : St) : Prop := ∃ (k : Nat) (i : Int), i = k ∧ k + m = sp.length ∧ st = outerSt sp i (flatS (sp.take k))
set_option maxRecDepth 100000 in
theorem classes_rounds (sp : List (Nat × FuncId)) (hsp : sp.length ≤ 100) (hfl : (flatS sp).length ≤ 100000) (Q : Exit → St → Prop)
    (hQ : ∀ b, Q (.exit 0) ⟨25, (10, .d (.val (.bool b))) :: (outerSt sp sp.length (flatS sp)).sl, [], [], (outerSt sp sp.length (flatS sp)).ow, 1⟩) (m : Nat) (st : St) (hI : outerI sp m st) :
    vc tab noSpec (loopAt Tryd.f59 0) st (fun e s' => match e with
      | .normal => ∃ m' s2, m' < m ∧ Weaker s' s2 ∧ outerI sp m' s2
      | e => Q e s') := by
  obtain ⟨k, _, rfl, hk, rfl⟩ := hI
  refine ⟨fun h => ?_, fun h => ?_⟩
  · have hlt : k < sp.length := by have := of_decide_eq_true h; omega
    have htake := flatS_take sp k hlt
    have hle : (flatS (sp.take (k + 1))).length ≤ (flatS sp).length := flatS_take_le sp (k + 1)
    refine ⟨⟨by omega, by omega⟩, ?_⟩
    refine loopVC_intro (fun m st => ∃ (q : Nat) (j : Int), j = q ∧ q + m = (sp.getD k (0, 0)).1 ∧ st = innerSt sp k j (sp.getD k (0, 0)).1 (sp.getD k (0, 0)).2 (flatS (sp.take k) ++ List.replicate q (sp.getD k (0, 0)).2))
      (sp.getD k (0, 0)).1 (innerSt sp k 0 (sp.getD k (0, 0)).1 (sp.getD k (0, 0)).2 (flatS (sp.take k))) (weaker_of [3, 5, 7, 8, 9, 14, 15] (by kernel_rfl)) ⟨0, 0, rfl, by omega, congrArg (innerSt sp k 0 (sp.getD k (0, 0)).1 (sp.getD k (0, 0)).2) (List.append_nil _).symm⟩ ?_
    have hle' : (flatS (sp.take k)).length + (sp.getD k (0, 0)).1 ≤ (flatS sp).length := by
      rw [htake, List.length_append, List.length_replicate] at hle; exact hle
    rintro m' st' ⟨q, _, rfl, hq, rfl⟩
    have hlen : (flatS (sp.take k) ++ List.replicate q (sp.getD k (0, 0)).2).length = (flatS (sp.take k)).length + q := by simp
    refine ⟨fun h => ?_, fun h => ?_⟩
    · have hlt2 : q < (sp.getD k (0, 0)).1 := by have := of_decide_eq_true h; omega
      have hb : ((flatS (sp.take k) ++ List.replicate q (sp.getD k (0, 0)).2).length + 1) * 8 ≤ 140737488351232 := by omega
      have hrep : flatS (sp.take k) ++ List.replicate q (sp.getD k (0, 0)).2 ++ [(sp.getD k (0, 0)).2] = flatS (sp.take k) ++ List.replicate (q + 1) (sp.getD k (0, 0)).2 := by
        rw [List.replicate_succ', List.append_assoc]
      exact ⟨hb, m' - 1, innerSt sp k (IntKind.i64.wrap ((q : Int) + 1)) (sp.getD k (0, 0)).1 (sp.getD k (0, 0)).2 (flatS (sp.take k) ++ List.replicate q (sp.getD k (0, 0)).2 ++ [(sp.getD k (0, 0)).2]), by omega,
        cl_push (by kernel_rfl), q + 1, _, i64_succ q (by omega), by omega, congrArg (innerSt sp k _ (sp.getD k (0, 0)).1 (sp.getD k (0, 0)).2) hrep⟩
    · have hge : q = (sp.getD k (0, 0)).1 := by have := of_decide_eq_false h; omega
      exact ⟨m - 1, outerSt sp (IntKind.i64.wrap ((k : Int) + 1)) (flatS (sp.take k) ++ List.replicate q (sp.getD k (0, 0)).2), by omega, (weaker_of [3, 7, 8, 9] rfl).trans (weaker_noBox [5] (by kernel_rfl)),
        k + 1, _, i64_succ k (by omega), by omega, congrArg (outerSt sp _) (by rw [hge]; exact htake.symm)⟩
  · have hge : k = sp.length := by have := of_decide_eq_false h; omega
    subst hge
    rw [List.take_length]
    exact hQ _
set_option maxRecDepth 100000 in
theorem classes_pure (sp : List (Nat × FuncId)) (hsp : sp.length ≤ 100) (hfl : (flatS sp).length ≤ 100000) (a b : Int) (c : Value) (hc : c = .nilFunc ∨ ∃ g, c = .func (.func g) #[] #[]) :
    Pure Tryd.prog 59 [.agg [.val (.int .i64 a), spArr sp, .val (.int .i64 b), .val c]] (.d (.row 1 (flatS sp).length (clRow (flatS sp)))) := by
  refine pure_fn (τ := tab) mixed noSpec_ok Tryd.f59 Tryd.func59 (by kernel_rfl) rfl (by kernel_rfl) ?_
  rcases hc with rfl | ⟨g, rfl⟩
  all_goals refine loopVC_intro (outerI sp) sp.length (outerSt sp 0 []) ?_ ⟨0, 0, rfl, by omega, rfl⟩ (classes_rounds sp hsp hfl _ fun b => ?_)
  · exact (weaker_nilO [7, 8, 9] 3 145 1 (clRow []) rfl).trans (weaker_noBox [1] (by kernel_rfl))
  · exact ends_ret rfl (by kernel_rfl)
  · exact (weaker_nilO [7, 8, 9] 3 145 1 (clRow []) rfl).trans (weaker_noBox [1] (by kernel_rfl))
  · exact ends_ret rfl (by kernel_rfl)

/-- The kinds of identifiers. -/
def spans0 : List (Nat × FuncId) := [(2, 92), (9, 93), (1, 94)]
def spans1 : List (Nat × FuncId) := [(1, 92), (7, 93)]
def spans2 : List (Nat × FuncId) := [(16, 96)]
def spans3 : List (Nat × FuncId) := [(18, 93), (2, 94)]
def kindCells (shortest : Int) (sp : List (Nat × FuncId)) (body : Int) (check : Value) : List RV := [.val (.int .i64 shortest), listRow 2 (sp.map spanRV), .val (.int .i64 body), .val check]
def kindsV : RV := .agg (kindCells 12 spans0 11 (.func (.func 95) #[] #[]) ++ kindCells 4 spans1 0 .nilFunc ++ kindCells 1 spans2 0 .nilFunc ++ kindCells 20 spans3 18 (.func (.func 97) #[] #[]))

set_option maxRecDepth 100000 in
theorem kinds_pure : Pure Tryd.prog 57 [] (.d kindsV) := by
  refine pure_fn (τ := tab) mixed noSpec_ok Tryd.f57 Tryd.func57 (by kernel_rfl) rfl (by kernel_rfl) ?_
  exact ends_ret rfl (by kernel_rfl)

/-- The first place below n, from k on, where p holds. -/
def scan (p : Nat → Bool) : Nat → Nat → Option Nat
  | 0, _ => none
  | m + 1, k => bif p k then some k else scan p m (k + 1)
def badAt (g : Nat → FuncId) (s : ByteArray) (k : Nat) : Bool := decide ((k : Int) < (s.size : Int)) && !(clsB (g k) (byteAt s k))
def prefOut (n : Nat) (g : Nat → FuncId) (shortest : Int) (s : ByteArray) : Int × Int :=
  match scan (badAt g s) n 0 with
  | some k => (k, 3)
  | none => bif decide ((s.size : Int) < shortest) then (s.size, 4) else bif decide ((s.size : Int) > n) then (n, 5) else (0, 0)

def prefSt (n : Nat) (g : Nat → FuncId) (shortest : Int) (s : ByteArray) (i : Int) : St := ⟨46, [(0, .d (.row 1 n (fun k => clsRV (g k)))), (1, .d (.val (.int .i64 shortest))), (2, .d (.val (.string s))), (10, .d (.row 1 n (fun k => clsRV (g k)))), (11, .d (.val (.int .i64 n))), (12, .d (.val (.int .i64 i)))], [], [], [], 0⟩
set_option maxRecDepth 100000 in
theorem prefix_pure (n : Nat) (hn : n ≤ 1000) (g : Nat → FuncId) (hg : ∀ k, k < n → isCls (g k)) (shortest : Int) (s : ByteArray) :
    Pure Tryd.prog 58 [.row 1 n (fun k => clsRV (g k)), .val (.int .i64 shortest), .val (.string s)]
      (.tup [.d (.val (.int .i64 (prefOut n g shortest s).1)), .d (.val (.int .i64 (prefOut n g shortest s).2))]) := by
  refine pure_fn (τ := tab) mixed clsSpec_ok Tryd.f58 Tryd.func58 (by kernel_rfl) rfl (by kernel_rfl) ?_
  refine loopVC_intro (fun m st => ∃ (k : Nat) (i : Int), i = k ∧ k + m = n ∧ scan (badAt g s) m k = scan (badAt g s) n 0 ∧ st = prefSt n g shortest s i) n (prefSt n g shortest s 0)
     (weaker_of [0, 1, 2, 10, 11, 12] (by kernel_rfl)) ⟨0, 0, rfl, by omega, rfl, rfl⟩ ?_
  rintro m st ⟨k, _, rfl, hk, hsc, rfl⟩
  refine ⟨fun h => ?_, fun h => ?_⟩
  · have hlt : k < n := by have := of_decide_eq_true h; omega
    obtain ⟨m', rfl⟩ : ∃ m', m = m' + 1 := ⟨m - 1, by omega⟩
    have hcl := hg k hlt
    refine ⟨⟨by omega, by omega⟩, fun hb => ⟨by omega, of_decide_eq_true hb⟩, fun _ => hcl, fun hb => ?_, fun hb => ?_⟩
    · have hbad : badAt g s k = true := hb
      have e : prefOut n g shortest s = ((k : Int), 3) := by
        unfold prefOut
        rw [← hsc, scan, hbad]; rfl
      exact ends_ret (y := .tup [.d (.val (.int .i64 k)), .d (.val (.int .i64 3))]) (by rw [e]) (by kernel_rfl)
    · have hbad : badAt g s k = false := hb
      exact ⟨m', prefSt n g shortest s (IntKind.i64.wrap ((k : Int) + 1)), by omega, weaker_of [0, 1, 2, 10, 11, 12] (by kernel_rfl), k + 1, _, i64_succ k (by omega), by omega, by rw [← hsc, scan, hbad]; rfl, rfl⟩
  · have hge : k = n := by have := of_decide_eq_false h; omega
    obtain rfl : m = 0 := by omega
    have hnone : scan (badAt g s) n 0 = none := by rw [← hsc]; rfl
    refine ⟨fun h4 => ?_, fun h4 => ⟨fun h5 => ?_, fun h5 => ?_⟩⟩
    · have e : prefOut n g shortest s = ((s.size : Int), 4) := by unfold prefOut; rw [hnone]; simp only [h4, cond_true]
      exact ends_ret (y := .tup [.d (.val (.int .i64 s.size)), .d (.val (.int .i64 4))]) (by rw [e]) (by kernel_rfl)
    · have e : prefOut n g shortest s = ((n : Int), 5) := by unfold prefOut; rw [hnone]; simp only [h4, h5, cond_true, cond_false]
      exact ends_ret (y := .tup [.d (.val (.int .i64 n)), .d (.val (.int .i64 5))]) (by rw [e]) (by kernel_rfl)
    · have e : prefOut n g shortest s = (0, 0) := by unfold prefOut; rw [hnone]; simp only [h4, h5, cond_false]
      exact ends_ret (y := .tup [.d (.val (.int .i64 0)), .d (.val (.int .i64 0))]) (by rw [e]) (by kernel_rfl)
end Go.Proofs.YtekifbnnkcgipaaDoor
