/- ValleysOf: the program's. -/
import Derived.Test.YtkamkjbllmgifaaVlL
namespace Go.Proofs.Ytkamkjbllmgifaa
open Go.RowKit

def valR (rows : List (List Int)) : List (List Int) := if greyOk rows then lastR (vSt rows) (vSt rows).n else []
def ValRes (w : World) (R : List (List Int)) (ok : Bool) (e : Ending) (w' : World) : Prop :=
  ∃ A c vs, e = .returned (.tuple #[.slice A R.length c, .bool ok]) ∧ MatAt w' w.heap.size w'.heap.size A c vs R ∧ Below w.heap.size w w'
set_option maxRecDepth 100000 in
set_option maxHeartbeats 2000000 in
theorem valleysOf_any (A : Option Addr) (c : Nat) (rows : List (List Int)) (w : World) (h : MatRd w A rows) (hn : rows.length ≤ 1000000000) (hr : ∀ i (h : i < rows.length), rows[i].length ≤ 1000000000) :
    Calls Try.prog 13 #[.agg #[.slice A rows.length c]] w (ValRes w (valR rows) (greyOk rows)) := by
  obtain ⟨wB, hwB⟩ : ∃ wB, w.alloc (.cells #[.slice A rows.length c] 26) = wB := ⟨_, rfl⟩
  have B1 : Below w.heap.size w wB := by rw [← hwB]; exact Ext.more (Ext.refl _) _
  have G1 : GreyAt wB w.heap.size A c rows := by rw [← hwB]; exact GreyAt.boxed h _
  have VG := Lib.hid (fun V (hV : Below w.heap.size w V) => validGrey_any A c rows V (h.ext hV) hn hr)
  have GX := Lib.hid (fun V (hb : Below wB.heap.size wB V) => G1.ext hb)
  have c0 := G1.cell
  cases hg : greyOk rows
  · have F2 : Hid (valR rows = []) := by rw [Hid, valR, hg]; rfl
    rw [hg] at VG
    rw [F2.out]
    clear hg hn hr h G1
    generalize rows.length = H at *
    go_enter Try.func13, Try.ntmps13
    go_wp2_with fail
    try simp only [hwB]
    refine (VG.out _ B1).mono ?_
    rintro e w2 ⟨rfl, hb⟩
    go_wp2_with fail
    go_ret2
    exact ⟨none, 0, [], rfl, MatAt.nil _ _ _ _ _ (World.ownsRow_nil _ _ _ _) (fun a ha => by cases ha), Ext.then_ B1 hb⟩
  · have F2 : Hid (valR rows = lastR (vSt rows) (vSt rows).n) := by rw [Hid, valR, hg]; rfl
    rw [hg] at VG
    have LA := Lib.hid (fun V (hV : GreyAt V w.heap.size A c rows) => lasting_any w.heap.size A c rows V hV hg)
    rw [F2.out]
    clear hg hn hr h G1
    generalize lastR (vSt rows) (vSt rows).n = R at *
    generalize hH : rows.length = H at *
    clear hH
    go_enter Try.func13, Try.ntmps13
    go_wp2_with fail
    try simp only [hwB]
    refine (VG.out _ B1).mono ?_
    rintro e w2 ⟨rfl, hb⟩
    go_wp2_with fail
    refine (LA.out _ (GX.out _ hb)).mono ?_
    rintro e w3 ⟨A3, c3, vs, rfl, hM, hb3⟩
    have B3 := Ext.then_ B1 hb
    go_wp2_with fail
    go_ret2
    exact ⟨A3, c3, vs, rfl, hM.low B3.size (Nat.le_refl _), Ext.then_ B3 hb3⟩
end Go.Proofs.Ytkamkjbllmgifaa
