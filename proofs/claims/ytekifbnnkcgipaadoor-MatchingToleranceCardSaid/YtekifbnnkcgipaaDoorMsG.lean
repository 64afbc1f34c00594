/- Contract of giro/matching.Match. Conditions: links that are links. -/
import Derived.Test.YtekifbnnkcgipaaDoorMsF
namespace Go.Proofs.YtekifbnnkcgipaaDoor
open Go.Sim

theorem cells_ii {N : Nat → Prop} {w : World} {i j : Ins} (hi : i.wf) (hj : j.wf) {l : List RV} {vs : List Value} (hc : Cells N w (i.rv :: j.rv :: l) vs) : Cells N w (i.nrm.rv :: j.nrm.rv :: l) vs := cells_two2 (fun _ hv => nrm_den hi hv) (fun _ hv => nrm_den hj hv) hc
def eI2t (f : Ins → Ins → Int → SV) : Entry := fun args => match args with
  | [x, y, .val (.int .i64 t)] => ob (insOf x) fun i => ob (insOf y) fun j => some ([i.wf, j.wf], f i j t)
  | _ => none
theorem eI2t_ok {g : FuncId} {f : Ins → Ins → Int → SV} (hg : Sim.Enters Tryd.prog g) (h : ∀ (i j : Ins) (t : Int), i.wf → j.wf → Pure Tryd.prog g [i.rv, j.rv, vI t] (f i j t)) : EntryOk Tryd.prog g (eI2t f) := by
  refine ⟨hg, fun args ps x hx hp => ?_⟩
  unfold eI2t at hx
  split at hx
  · obtain ⟨i, e, hx⟩ := ob_eq hx
    obtain ⟨j, e2, hx⟩ := ob_eq hx
    simp only [Option.some.injEq, Prod.mk.injEq] at hx
    obtain ⟨rfl, rfl⟩ := hx
    exact pure_args (h i j _ (hp _ (by simp)) (hp _ (by simp))) fun N w vs hc => cells_two2 (fun v hv => insOf_den e hv) (fun v hv => insOf_den e2 hv) hc
  · cases hx
theorem compare_wf (i j : Ins) (t : Int) (hi : i.wf) (hj : j.wf) : Pure Tryd.prog 32 [i.rv, j.rv, vI t] (.tup [.d (lsRV (cmpL i j t)), iv (cmpE i j t)]) :=
  pure_args (compare_nrm i j t) fun _ _ _ hc => cells_ii hi hj hc
def cmpR (i j : Ins) (t : Int) : SV := .tup [.d (.row 1 (cmpL i j t).length (lsF (cmpL i j t))), iv (cmpE i j t)]
theorem compare_ok : EntryOk Tryd.prog 32 (eI2t cmpR) := eI2t_ok (enters Tryd.f32 Tryd.func32 (by kernel_rfl)) compare_wf

/-- A trade's fields. -/
structure Trd where
  kind : Int
  del : ByteArray
  rcv : ByteArray
  asset : ByteArray
  qty : Int
  amt : Int
  tday : Int
  sday : Int
  prio : Int
  part : Bool
  lot : Int
  r0 : ByteArray
  r1 : ByteArray
def Trd.rv (x : Trd) : RV := .agg [vI x.kind, vS x.del, vS x.rcv, vS x.asset, vI x.qty, vI x.amt, vI x.tday, vI x.sday, vI x.prio, vB x.part, vI x.lot, vS x.r0, vS x.r1]
def noTrd : Trd := ⟨0, ⟨#[]⟩, ⟨#[]⟩, ⟨#[]⟩, 0, 0, 0, 0, 0, false, 0, ⟨#[]⟩, ⟨#[]⟩⟩
/-- The trade of the deliverer's and the receiver's instruction. -/
def trdOf (a b : Ins) : Trd := ⟨a.kind, a.sender, b.sender, a.asset, a.qty, a.amt, a.tday, a.sday, max a.prio b.prio, a.part && b.part, bif a.part && b.part then max a.lot b.lot else 0, a.ref, b.ref⟩
def matE (i j : Ins) (t : Int) : Int := bif cmpE i j t != 0 then cmpE i j t else bif decide (((cmpL i j t).length : Int) > 0) then 17 else 0
def matT (i j : Ins) (t : Int) : Trd := bif matE i j t != 0 then noTrd else bif i.side == 1 then trdOf j i else trdOf i j
def matR (i j : Ins) (t : Int) : SV := .tup [.d (matT i j t).rv, iv (matE i j t)]
theorem matR_err {i j : Ins} {t e : Int} (h : matE i j t = e) (he : e ≠ 0) : .tup [.d noTrd.rv, iv e] = matR i j t := by
  unfold matR matT; rw [h, bne_iff_ne.2 he]; rfl
theorem matR_ok {i j : Ins} {t : Int} {x : Trd} (h : matE i j t = 0) (hx : x = bif i.side == 1 then trdOf j i else trdOf i j) : .tup [.d x.rv, iv 0] = matR i j t := by
  unfold matR matT; rw [h, hx]; rfl
def tabMt : List (Nat × Entry) := [(32, eI2t cmpR)]
theorem tabMt_ok : SpecOk Tryd.prog (table tabMt) := table_ok ⟨compare_ok, trivial⟩
def trd2 (a b : Ins) (p : Bool) (l : Int) : RV := .agg [vI a.kind, vS a.sender, vS b.sender, vS a.asset, vI a.qty, vI a.amt, vI a.tday, vI a.sday, vI (max a.prio b.prio), vB p, vI l, vS a.ref, vS b.ref]
/-- What the code of Match owes. -/
theorem match_key (i j : Ins) (t : Int) (hi : i.wf) (hj : j.wf) : i.wf ∧ j.wf ∧ ((cmpE i j t != 0) = true → Fin (.tup [.d noTrd.rv, iv (cmpE i j t)]) (matR i j t)) ∧ ((cmpE i j t != 0) = false →
      (decide (((cmpL i j t).length : Int) > 0) = true → Fin (.tup [.d noTrd.rv, iv 17]) (matR i j t)) ∧ (decide (((cmpL i j t).length : Int) > 0) = false →
      ((i.side == 1) = true → ((j.part && i.part) = true → Fin (.tup [.d (trd2 j i true (max j.lot i.lot)), iv 0]) (matR i j t)) ∧ ((j.part && i.part) = false → Fin (.tup [.d (trd2 j i false 0), iv 0]) (matR i j t))) ∧
      ((i.side == 1) = false → ((i.part && j.part) = true → Fin (.tup [.d (trd2 i j true (max i.lot j.lot)), iv 0]) (matR i j t)) ∧ ((i.part && j.part) = false → Fin (.tup [.d (trd2 i j false 0), iv 0]) (matR i j t))))) := by
  have fin (a b : Ins) (h1 : cmpE i j t = 0) (h2 : decide (((cmpL i j t).length : Int) > 0) = false) (hx : trdOf a b = bif i.side == 1 then trdOf j i else trdOf i j) :
      ((a.part && b.part) = true → Fin (.tup [.d (trd2 a b true (max a.lot b.lot)), iv 0]) (matR i j t)) ∧ ((a.part && b.part) = false → Fin (.tup [.d (trd2 a b false 0), iv 0]) (matR i j t)) := by
    have h0 : matE i j t = 0 := by unfold matE; rw [h1, h2]; rfl
    have e := matR_ok h0 hx
    refine ⟨fun hp => fin_of ?_, fun hp => fin_of ?_⟩
    · rw [← e]; unfold trdOf Trd.rv trd2; rw [hp]; rfl
    · rw [← e]; unfold trdOf Trd.rv trd2; rw [hp]; rfl
  refine ⟨hi, hj, fun h => fin_of (matR_err (by unfold matE; rw [h]; rfl) (bne_iff_ne.1 h)), fun h => ⟨fun h2 => fin_of (matR_err (by unfold matE; rw [h, h2]; rfl) (by decide)), fun h2 => ⟨fun h3 => fin j i (bne_eq_false_iff_eq.1 h) h2 (by rw [h3]; rfl), fun h3 => fin i j (bne_eq_false_iff_eq.1 h) h2 (by rw [h3]; rfl)⟩⟩⟩
set_option maxRecDepth 100000 in
theorem match_wf (i j : Ins) (t : Int) (hi : i.wf) (hj : j.wf) : Pure Tryd.prog 36 [i.rv, j.rv, vI t] (matR i j t) := by
  have key := match_key i j t hi hj
  exact pure_vc (τ := tab) mixed tabMt_ok Tryd.f36 Tryd.func36 (by kernel_rfl) rfl (by kernel_rfl) key (by kernel_rfl)
theorem match_ok : EntryOk Tryd.prog 36 (eI2t matR) := eI2t_ok (enters Tryd.f36 Tryd.func36 (by kernel_rfl)) match_wf
end Go.Proofs.YtekifbnnkcgipaaDoor
