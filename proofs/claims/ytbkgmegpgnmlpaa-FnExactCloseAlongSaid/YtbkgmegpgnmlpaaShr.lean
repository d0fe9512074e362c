/- The exact contracts at spots of a law's own. -/
import Derived.Test.YtbkgmegpgnmlpaaShq
import Derived.Test.YtbkgmegpgnmlpaaSSc
namespace Go.Proofs.Ytbkgmegpgnmlpaa
open Go.RowKit

theorem sortAlong_sp (cv od : Int) (A : Option Addr) (c : Nat) (sp : List (Int × Int)) (V : World) (h : SpS V A sp) (m : spotsSmall sp) :
    Calls Try.prog 36 #[.int .i64 cv, .int .i64 od, .slice A sp.length c] V fun e w' => ∃ A c, e = .returned (.tuple #[.slice A (srtV cv od sp).length c, .bool (sokB cv od sp)]) ∧ SpO w' V.heap.size w'.heap.size A c (srtV cv od sp) ∧ Below V.heap.size V w' := by
  obtain ⟨g, rfl, hg⟩ := h
  exact (sortAlong_any cv od g c sp.length sp V hg rfl (by unfold spotsSmall at m; omega)).mono (fun _ _ h => SpRes.o h)
theorem sortAlongS_sp (cv od : Int) (A : Option Addr) (c : Nat) (sp : List (Int × Int)) (V : World) (h : SpS V A sp) (m : spotsSmall sp) :
    Calls Try.prog 34 #[.int .i64 cv, .int .i64 od, .slice A sp.length c] V fun e w' => ∃ A c, e = .returned (.tuple #[.slice A (srtV cv od sp).length c, .bool (sokB cv od sp)]) ∧ SpO w' V.heap.size w'.heap.size A c (srtV cv od sp) ∧ Below V.heap.size V w' := by
  obtain ⟨g, rfl, hg⟩ := h
  exact (sortAlongS_any cv od g c sp.length sp V hg rfl (by unfold spotsSmall at m; omega)).mono (fun _ _ h => SpRes.o h)
theorem wayAlong_sp (cv od : Int) (A : Option Addr) (c : Nat) (sp : List (Int × Int)) (V : World) (h : SpS V A sp) (m : spotsSmall sp) :
    Calls Try.prog 41 #[.int .i64 cv, .int .i64 od, .slice A sp.length c] V fun e w' => e = .returned (.tuple #[.int .i64 (wayA cv od sp), .bool (sokB cv od sp)]) ∧ Below V.heap.size V w' := by
  obtain ⟨g, rfl, hg⟩ := h
  exact (wayAlong_any cv od g c sp.length sp V hg rfl (by unfold spotsSmall at m; omega))
theorem wayAlongS_sp (cv od : Int) (A : Option Addr) (c : Nat) (sp : List (Int × Int)) (V : World) (h : SpS V A sp) (m : spotsSmall sp) :
    Calls Try.prog 40 #[.int .i64 cv, .int .i64 od, .slice A sp.length c] V fun e w' => e = .returned (.tuple #[.int .i64 (wayA cv od sp), .bool (sokB cv od sp)]) ∧ Below V.heap.size V w' := by
  obtain ⟨g, rfl, hg⟩ := h
  exact (wayAlongS_any cv od g c sp.length sp V hg rfl (by unfold spotsSmall at m; omega))
theorem closeAlong_sp (cv od : Int) (gp_ : Int) (A : Option Addr) (c : Nat) (sp : List (Int × Int)) (V : World) (h : SpS V A sp) (m : spotsSmall sp) :
    Calls Try.prog 43 #[.int .i64 cv, .int .i64 od, .slice A sp.length c, .int .i64 gp_] V fun e w' => ∃ A c vs, e = .returned (.tuple #[.slice A (prR (clP cv od sp gp_)).length c, .bool (clOk cv od sp gp_)]) ∧ MatAt w' V.heap.size w'.heap.size A c vs (prR (clP cv od sp gp_)) ∧ Below V.heap.size V w' := by
  obtain ⟨g, rfl, hg⟩ := h
  exact (closeAlong_any cv od gp_ g c sp.length sp V hg rfl (by unfold spotsSmall at m; omega)).mono (fun _ _ h => IvRes.o h)
theorem closeAlongS_sp (cv od : Int) (gp_ : Int) (A : Option Addr) (c : Nat) (sp : List (Int × Int)) (V : World) (h : SpS V A sp) (m : spotsSmall sp) :
    Calls Try.prog 42 #[.int .i64 cv, .int .i64 od, .slice A sp.length c, .int .i64 gp_] V fun e w' => ∃ A c vs, e = .returned (.tuple #[.slice A (prR (clP cv od sp gp_)).length c, .bool (clOk cv od sp gp_)]) ∧ MatAt w' V.heap.size w'.heap.size A c vs (prR (clP cv od sp gp_)) ∧ Below V.heap.size V w' := by
  obtain ⟨g, rfl, hg⟩ := h
  exact (closeAlongS_any cv od gp_ g c sp.length sp V hg rfl (by unfold spotsSmall at m; omega)).mono (fun _ _ h => IvRes.o h)
end Go.Proofs.Ytbkgmegpgnmlpaa
