/- The framed picture's tree, plain. -/
import Derived.Test.YtdhajndmebnknaaTopL
namespace Go.Proofs.Ytdhajndmebnknaa
open Go.RowKit

/-- A picture with white pixels around it. -/
def padL (L : List Bool) (W H : Nat) : List Bool := (List.range ((W + 2) * (H + 2))).map fun i => bit L W H (((i % (W + 2) : Nat) : Int) - 1) (((i / (W + 2) : Nat) : Int) - 1)
theorem divT {W x y : Nat} (hx : x < W) : (y * W + x) / W = y := by
  rw [Nat.mul_comm, Nat.mul_add_div (by omega), Nat.div_eq_of_lt hx]; omega
theorem modT {W x y : Nat} (hx : x < W) : (y * W + x) % W = x := by
  rw [Nat.mul_comm, Nat.mul_add_mod, Nat.mod_eq_of_lt hx]
/-- The parts of a framed picture. -/
def pcF (L : List Bool) (W H : Nat) : Pc := pcI (padL L W H) (W + 2) (H + 2)
theorem pcF_has (L : List Bool) (W H : Nat) : (pcF L W H).has (0, 0) := by
  refine ⟨⟨by simp, ?_⟩, by simp, ?_⟩
  · show (0 : Int) < ((W + 2 : Nat) : Int); omega
  · show (0 : Int) < ((H + 2 : Nat) : Int); omega
theorem pcF_col (L : List Bool) (W H : Nat) : (pcF L W H).col (0, 0) = false := by
  have e : bit (padL L W H) (W + 2) (H + 2) 0 0 = (padL L W H).getD 0 false := by
    simp [bit]
    omega
  show bit (padL L W H) (W + 2) (H + 2) 0 0 = false
  rw [e]
  have hpos : 0 < (W + 2) * (H + 2) := Nat.mul_pos (by omega) (by omega)
  rw [padL, List.getD_eq_getElem?_getD, List.getElem?_map, List.getElem?_range hpos]
  simp [bit]
open Classical in
/-- The code of the tree of a picture, and its depth. -/
noncomputable def treeV (L : List Bool) (W H : Nat) : Txt × Nat := if h : ∃ z : Txt × Nat, ∃ n, (pcF L W H).Nd n none (0, 0) z.1 z.2 then Classical.choose h else ([], 0)
theorem treeV_is {L : List Bool} {W H n : Nat} {c : Txt} {d : Nat} (h : (pcF L W H).Nd n none (0, 0) c d) : treeV L W H = (c, d) := by
  have hx : ∃ z : Txt × Nat, ∃ n, (pcF L W H).Nd n none (0, 0) z.1 z.2 := ⟨(c, d), n, h⟩
  rw [treeV, dif_pos hx]
  obtain ⟨m, hm⟩ := Classical.choose_spec hx
  obtain ⟨e1, e2⟩ := nd_same m n none none (0, 0) (0, 0) _ _ _ _ hm h (.start (pcF_has L W H)) (fun _ => Iff.rfl)
  exact Prod.ext e1 e2
theorem vp_root {L : List Bool} {W H : Nat} {s : Cell → Bool} (hs : ∀ z, s z = true ↔ (pcF L W H).Same (0, 0) z) : (pcF L W H).Vp none (0, 0) (fun z => s z = true) :=
  ⟨fun x hx => (hs x).2 hx, fun x hx => hx.elim, fun x hx _ => (hs x).1 hx, fun x y hx hxy => (hs y).2 (((hs x).1 hx).trans hxy), pcF_has L W H, fun h => h, fun p hp => by cases hp⟩
end Go.Proofs.Ytdhajndmebnknaa
