/- Ways: neighbours by columns and rows; a pass over all places. -/
import Derived.Test.YtajepoopicoodaaWays
namespace Go.Proofs.Ytajepoopicoodaa
open Go.RowKit

theorem plD {W x y : Nat} (hx : x < W) : (y * W + x) / W = y := by
  rw [Nat.mul_comm, Nat.mul_add_div (by omega), Nat.div_eq_of_lt hx, Nat.add_zero]
theorem plM {W x y : Nat} (hx : x < W) : (y * W + x) % W = x := by
  rw [Nat.mul_comm, Nat.mul_add_mod, Nat.mod_eq_of_lt hx]
theorem pl_lt {W H x y : Nat} (hx : x < W) (hy : y < H) : y * W + x < W * H := by
  have : (y + 1) * W ≤ H * W := Nat.mul_le_mul_right _ (by omega)
  rw [Nat.mul_comm W H]
  rw [Nat.succ_mul] at this
  omega
theorem pl_eq {W : Nat} (i : Nat) (hW : 0 < W) : i = i / W * W + i % W ∧ i % W < W := by
  have h1 := Nat.div_add_mod i W
  have h2 := Nat.mod_lt i hW
  rw [Nat.mul_comm] at h1
  exact ⟨h1.symm, h2⟩
theorem pl_row {W H i : Nat} (h : i < W * H) : i / W < H := Nat.div_lt_of_lt_mul h
theorem adj_xy {W H x y x' y' : Nat} (hx : x < W) (hy : y < H) (hx' : x' < W) (hy' : y' < H) :
    adj W (W * H) (y * W + x) (y' * W + x') ↔ (x = x' ∧ (y + 1 = y' ∨ y' + 1 = y)) ∨ (y = y' ∧ (x + 1 = x' ∨ x' + 1 = x)) := by
  unfold adj
  rw [plD hx, plM hx, plD hx', plM hx']
  constructor
  · exact fun h => h.2.2
  · exact fun h => ⟨pl_lt hx hy, pl_lt hx' hy', h⟩

/-- The four neighbours, in reading order. -/
def arL (x y : Int) : List (Int × Int) := [(x, y - 1), (x - 1, y), (x + 1, y), (x, y + 1)]
def inG (W H : Nat) (p : Int × Int) : Bool := inB p.1 0 ((W : Int) - 1) && inB p.2 0 ((H : Int) - 1)
theorem inG_iff {W H : Nat} {p : Int × Int} : inG W H p = true ↔ (0 ≤ p.1 ∧ p.1 < W) ∧ 0 ≤ p.2 ∧ p.2 < H := by
  simp [inG, inB]; omega
/-- The place of a spot. -/
def plc (W : Nat) (p : Int × Int) : Nat := p.2.toNat * W + p.1.toNat
theorem plc_lt {W H : Nat} {p : Int × Int} (h : inG W H p = true) : plc W p < W * H := by
  rw [inG_iff] at h
  exact pl_lt (by omega) (by omega)
theorem arL_adj {W H x y : Nat} (hx : x < W) (hy : y < H) (k : Nat) (hk : k < 4) (h : inG W H ((arL x y).getD k (0, 0)) = true) :
    adj W (W * H) (plc W ((arL x y).getD k (0, 0))) (y * W + x) := by
  rw [inG_iff] at h
  have e : k = 0 ∨ k = 1 ∨ k = 2 ∨ k = 3 := by omega
  unfold plc
  rw [adj_xy (by omega) (by omega) hx hy]
  rcases e with e | e | e | e <;> subst e <;> simp [arL] at h ⊢ <;> omega
theorem arL_all {W H x y j : Nat} (hx : x < W) (hy : y < H) (h : adj W (W * H) j (y * W + x)) :
    ∃ k, k < 4 ∧ inG W H ((arL x y).getD k (0, 0)) = true ∧ plc W ((arL x y).getD k (0, 0)) = j := by
  obtain ⟨e, hm⟩ := pl_eq j (show 0 < W by omega)
  have hr := pl_row h.1
  generalize j / W = y' at *
  generalize j % W = x' at *
  subst e
  rw [adj_xy hm hr hx hy] at h
  have key : ∀ k, (∀ p, (arL x y).getD k (0, 0) = p → p.1 = x' ∧ p.2 = y') → k < 4 → ∃ k, k < 4 ∧ inG W H ((arL x y).getD k (0, 0)) = true ∧ plc W ((arL x y).getD k (0, 0)) = y' * W + x' := by
    intro k hp hk
    obtain ⟨h1, h2⟩ := hp _ rfl
    refine ⟨k, hk, ?_, ?_⟩
    · rw [inG_iff, h1, h2]; omega
    · unfold plc; rw [h1, h2]; simp
  rcases h with ⟨h1, h2 | h2⟩ | ⟨h1, h2 | h2⟩
  · exact key 0 (by rintro p rfl; simp [arL]; omega) (by omega)
  · exact key 3 (by rintro p rfl; simp [arL]; omega) (by omega)
  · exact key 1 (by rintro p rfl; simp [arL]; omega) (by omega)
  · exact key 2 (by rintro p rfl; simp [arL]; omega) (by omega)

def sumF (O : Nat → Int) : Nat → Nat
  | 0 => 0
  | k + 1 => sumF O k + (O k).toNat
theorem sumF_out (O : Nat → Int) (s : Nat) (v : Int) : ∀ k, k ≤ s → sumF (setF O s v) k = sumF O k := by
  intro k
  induction k with
  | zero => intro _; rfl
  | succ k ih => intro h; rw [sumF, sumF, ih (by omega), setF_ne (by omega)]
theorem sumF_set {O : Nat → Int} {s : Nat} {v : Int} (h0 : 0 ≤ v) (h : v < O s) : ∀ k, s < k → sumF (setF O s v) k < sumF O k := by
  intro k
  induction k with
  | zero => intro h; omega
  | succ k ih =>
    intro hk
    rw [sumF, sumF]
    by_cases e : s = k
    · subst e
      rw [sumF_out O s v s (Nat.le_refl _), setF_same]; omega
    · rw [setF_ne (by omega)]
      have := ih (by omega)
      omega

/-- In the midst of a pass over all places. -/
structure Half (W n : Nat) (G : Nat → Int) (F : Nat → Prop) (O0 O : Nat → Int) (again : Bool) (T : Nat → Nat → Prop) : Prop where
  sound : SoundP W n G F O
  start : StartP n G F O
  no : again = false → O = O0 ∧ ∀ q s, adj W n q s → T q s → O s ≤ max (O q) (G s)
  yes : again = true → sumF O n < sumF O0 n
section
variable {W n : Nat} {G : Nat → Int} {F : Nat → Prop} {O0 O : Nat → Int} {again : Bool} {T : Nat → Nat → Prop}
theorem Half.init (h1 : SoundP W n G F O) (h2 : StartP n G F O) : Half W n G F O O false (fun _ _ => False) :=
  ⟨h1, h2, fun _ => ⟨rfl, fun _ _ _ h => h.elim⟩, fun h => (by cases h)⟩
theorem Half.low (h : Half W n G F O0 O again T) {q s : Nat} (ha : adj W n q s) (hG : 0 ≤ G s) (h99 : G s ≤ 99) (hlt : max (O q) (G s) < O s) :
    Half W n G F O0 (setF O s (max (O q) (G s))) true (fun a b => T a b ∨ (a = q ∧ b = s)) := by
  refine ⟨h.sound.set ha hG h99 hlt, h.start.set (by omega), fun h => (by cases h), fun _ => ?_⟩
  have h1 := sumF_set (O := O) (s := s) (v := max (O q) (G s)) (by omega) hlt n ha.2.1
  cases e : again
  · obtain ⟨rfl, _⟩ := h.no e; exact h1
  · have := h.yes e; omega
theorem Half.stay (h : Half W n G F O0 O again T) {q s : Nat} (hge : ¬ max (O q) (G s) < O s) :
    Half W n G F O0 O again (fun a b => T a b ∨ (a = q ∧ b = s)) := by
  refine ⟨h.sound, h.start, fun e => ⟨(h.no e).1, fun a b hab hT => ?_⟩, h.yes⟩
  rcases hT with hT | ⟨rfl, rfl⟩
  · exact (h.no e).2 a b hab hT
  · omega
theorem Half.pass (h : Half W n G F O0 O false T) (hT : ∀ q s, adj W n q s → T q s) : IsPass W n G F O :=
  IsPass.of_closed h.sound h.start (fun q s ha => (h.no rfl).2 q s ha (hT q s ha))
end
end Go.Proofs.Ytajepoopicoodaa
