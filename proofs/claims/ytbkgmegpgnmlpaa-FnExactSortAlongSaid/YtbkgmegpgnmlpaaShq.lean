/- Shapes for the exact laws: spots as arguments and results, rows of numbers as results. -/
import Derived.Test.YtbkgmegpgnmlpaaSpO
import Derived.Test.YtbkgmegpgnmlpaaSSs
namespace Go.Proofs.Ytbkgmegpgnmlpaa
open Go.RowKit

/-- A slice of spots of a law's own, not nil. -/
def SpS (w : World) (A : Option Addr) (L : List (Int × Int)) : Prop := ∃ g, A = some ⟨g, 0, none⟩ ∧ SpAt w g L
theorem SpS.weak {w : World} {A : Option Addr} {L : List (Int × Int)} (h : SpS w A L) : SpRd w A L := fun _ => h
structure SpOS (w : World) (lo hi : Nat) (A : Option Addr) (c : Nat) (L : List (Int × Int)) : Prop where
  o : SpO w lo hi A c L
  s : ∃ g, A = some ⟨g, 0, none⟩
section
variable {w w' : World} {lo hi : Nat} {A : Option Addr} {c : Nat} {L : List (Int × Int)}
theorem SpOS.ext (h : SpOS w lo hi A c L) (hb : Below w.heap.size w w') : SpOS w' lo hi A c L := ⟨h.o.ext hb, h.s⟩
theorem SpOS.keep {S : Nat → Prop} (h : SpOS w lo hi A c L) (hc : Chg S w w') (hS : ∀ b, lo ≤ b → b < hi → ¬ S b) : SpOS w' lo hi A c L := ⟨h.o.keep hc hS, h.s⟩
theorem SpOS.rd (h : SpOS w lo hi A c L) : SpS w A L := by
  obtain ⟨g, rfl⟩ := h.s
  exact ⟨g, rfl, h.o.at⟩
end
def spotsSmall (L : List (Int × Int)) : Prop := L.length ≤ 1048576
theorem spotsSz_any (A : Option Addr) (c : Nat) (L : List (Int × Int)) (l0 : Nat) (hl : l0 ≤ 1048576) (w : World) (_h : SpRdA w A L) (hn : L.length ≤ maxLen) :
    Calls Try.prog 33 #[.slice A L.length c, .int .i64 l0] w fun e w' => (∃ r : Int, e = .returned (.int .i64 r) ∧ (r < 0 ∨ spotsSmall L)) ∧ Below w.heap.size w w' :=
  (szSpots_any A L.length c l0 hl hn w).mono fun _ _ ⟨⟨r, he, hr⟩, hw⟩ => ⟨⟨r, he, hr.imp id (fun h => Nat.le_trans h.1 hl)⟩, hw ▸ Ext.refl _⟩
theorem spotsTo_any (A : Option Addr) (c : Nat) (L : List (Int × Int)) (w : World) (h : SpRdA w A L) (hn : spotsSmall L) :
    Calls Try.prog 35 #[.slice A L.length c] w fun e w' => ∃ A' c', e = .returned (.slice A' L.length c') ∧ SpOS w' w.heap.size w'.heap.size A' c' L ∧ Below w.heap.size w w' :=
  (toSpots_any A c L w h hn).mono fun _ _ ⟨g, c', he, ho, hb⟩ => ⟨_, c', he, ⟨ho, g, rfl⟩, hb⟩
theorem spotsMark_any (lo hi : Nat) (A : Option Addr) (c : Nat) (L : List (Int × Int)) (k0 : Nat) (w : World) (h : SpOS w lo hi A c L) (hn : L.length ≤ 1000000000) (hk0 : k0 ≤ 1000000000) :
    Calls Try.prog 38 #[.slice A L.length c, .int .i64 k0] w fun e w' => e = .returned (.int .i64 ((k0 + 2 * L.length : Nat) : Int)) ∧ SpO w' lo hi A c (mkSp k0 L.length) ∧ Chg (fun b => lo ≤ b ∧ b < hi) w w' :=
  markSpots_any lo hi A c L k0 w h.o hn hk0
theorem matEq_any (A B : Option Addr) (c d : Nat) (R : List (List Int)) (w : World) (hA : MatRd w A R) (hB : MatRd w B R) (hn : R.length ≤ 1000000000) (hr : ∀ i (h : i < R.length), R[i].length ≤ 1000000000) :
    Calls Try.prog 30 #[.slice A R.length c, .slice B R.length d] w fun e w' => e = .returned (.bool true) ∧ Below w.heap.size w w' :=
  (eqMat_any A B c d R w hA hB hn hr).mono fun _ _ ⟨he, k, hk⟩ => ⟨he, hk ▸ Ext.drawN (Ext.refl _) k⟩
theorem matHeld_any (A : Option Addr) (c : Nat) (R : List (List Int)) (k0 : Nat) (w : World) (hA : MatRd w A (mkRows k0 R R.length)) (hn : R.length ≤ 1000000000) (ht : tot R R.length ≤ 1000000000) (hk0 : k0 ≤ 1000000000) :
    Calls Try.prog 32 #[.slice A R.length c, .int .i64 k0] w fun e w' => e = .returned (.int .i64 ((k0 + tot R R.length : Nat) : Int)) ∧ Below w.heap.size w w' :=
  (heldMat_any A c R k0 w hA hn ht hk0).mono fun _ _ ⟨he, hk⟩ => ⟨he, hk ▸ Ext.refl _⟩
theorem SpRes.o {w w' : World} {R : List (Int × Int)} {ok : Bool} {e : Ending} (h : SpRes w R ok e w') : ∃ A c, e = .returned (.tuple #[.slice A R.length c, .bool ok]) ∧ SpO w' w.heap.size w'.heap.size A c R ∧ Below w.heap.size w w' := by
  obtain ⟨A, c, he, ho, _, hb⟩ := h
  exact ⟨A, c, he, SpO.of_own ho, hb⟩
theorem prR_tot' (P : List (Int × Int)) : tot (prR P) (prR P).length = 2 * P.length := by
  rw [tot, List.take_length]
  induction P with
  | nil => rfl
  | cons p r ih => rw [show prR (p :: r) = [p.1, p.2] :: prR r from rfl, List.map_cons, List.sum_cons, ih, List.length_cons]; simp; omega
theorem prR_row' {P : List (Int × Int)} (i : Nat) (h : i < (prR P).length) : ((prR P)[i]'h).length = 2 := by
  rw [prR_at (by rw [prR_len] at h; exact h)]; rfl
theorem IvRes.o {w w' : World} {P : List (Int × Int)} {ok : Bool} {e : Ending} (h : IvRes w P ok e w') : ∃ A c vs, e = .returned (.tuple #[.slice A (prR P).length c, .bool ok]) ∧ MatAt w' w.heap.size w'.heap.size A c vs (prR P) ∧ Below w.heap.size w w' := by
  obtain ⟨A, c, vs, he, hM, hb⟩ := h
  exact ⟨A, c, vs, by rw [prR_len]; exact he, hM, hb⟩
theorem clP_le (c o : Int) (L : List (Int × Int)) (gap : Int) : (clP c o L gap).length ≤ 256 := by
  unfold clP
  split
  · rename_i h
    simp only [clOk, Bool.and_eq_true] at h
    obtain ⟨_, ⟨h0, h4⟩, hf, hL⟩ := sok_few h.1
    exact Nat.le_trans (prtTo_le _ _ _) (by rw [sIx_len h0 h4 hL]; exact hf)
  · simp
theorem srtV_le (c o : Int) (L : List (Int × Int)) : (srtV c o L).length ≤ 256 := by
  unfold srtV
  split
  · rename_i h
    obtain ⟨_, ⟨h0, h4⟩, hf, hL⟩ := sok_few h
    rw [sSp_len h0 h4 hL]; exact hf
  · simp
end Go.Proofs.Ytbkgmegpgnmlpaa
