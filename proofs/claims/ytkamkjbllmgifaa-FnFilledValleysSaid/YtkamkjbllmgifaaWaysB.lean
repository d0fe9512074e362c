/- Ways over places and their least heights: the plain part. Ways: neighbours by columns and rows; a pass over all places. -/
import Derived.Test.YtkamkjbllmgifaaBase
namespace Go.Proofs.Ytkamkjbllmgifaa
open Go.RowKit

/-- Neighbours in a picture with W columns and n places. -/
def adj (W n : Nat) (i j : Nat) : Prop :=
  i < n ∧ j < n ∧ ((i % W = j % W ∧ (i / W + 1 = j / W ∨ j / W + 1 = i / W)) ∨ (i / W = j / W ∧ (i % W + 1 = j % W ∨ j % W + 1 = i % W)))
theorem adj.symm {W n i j : Nat} (h : adj W n i j) : adj W n j i := by
  obtain ⟨h1, h2, h3⟩ := h
  refine ⟨h2, h1, ?_⟩
  rcases h3 with ⟨a, b⟩ | ⟨a, b⟩
  · exact .inl ⟨a.symm, b.symm⟩
  · exact .inr ⟨a.symm, b.symm⟩

section
variable (W n : Nat) (G : Nat → Int) (F : Nat → Prop)
/-- A place that a way reaches from a place in F, with numbers of at most h. -/
inductive Way (h : Int) : Nat → Prop
  | start (i : Nat) (hi : i < n) (hF : F i) (hG : G i ≤ h) : Way h i
  | step (q s : Nat) (hq : Way h q) (ha : adj W n q s) (hG : G s ≤ h) : Way h s
end
section
variable {W n : Nat} {G : Nat → Int} {F : Nat → Prop}
theorem Way.lt {h : Int} {i : Nat} (w : Way W n G F h i) : i < n := by
  cases w with
  | start i hi _ _ => exact hi
  | step q s _ ha _ => exact ha.2.1
theorem Way.le {h : Int} {i : Nat} (w : Way W n G F h i) : G i ≤ h := by
  cases w with
  | start i _ _ hG => exact hG
  | step q s _ _ hG => exact hG
theorem Way.mono {h k : Int} {i : Nat} (w : Way W n G F h i) (hk : h ≤ k) : Way W n G F k i := by
  induction w with
  | start i hi hF hG => exact .start i hi hF (Int.le_trans hG hk)
  | step q s _ ha hG ih => exact .step q s ih ha (Int.le_trans hG hk)
end

section
variable (W n : Nat) (G : Nat → Int) (F : Nat → Prop)
/-- Heights that are those of ways, or 100. -/
def SoundP (O : Nat → Int) : Prop := ∀ i, i < n → 0 ≤ O i ∧ O i ≤ 100 ∧ (O i < 100 → Way W n G F (O i) i)
def StartP (O : Nat → Int) : Prop := ∀ i, i < n → F i → O i ≤ G i
def ClosedP (O : Nat → Int) : Prop := ∀ q s, adj W n q s → O s ≤ max (O q) (G s)
/-- The least heights of ways. -/
structure IsPass (O : Nat → Int) : Prop where
  sound : SoundP W n G F O
  least : ∀ i h, Way W n G F h i → O i ≤ h
end
section
variable {W n : Nat} {G : Nat → Int} {F : Nat → Prop}
theorem IsPass.of_closed {O : Nat → Int} (h1 : SoundP W n G F O) (h2 : StartP n G F O) (h3 : ClosedP W n G O) : IsPass W n G F O := by
  refine ⟨h1, fun i h w => ?_⟩
  induction w with
  | start i hi hF hG => exact Int.le_trans (h2 i hi hF) hG
  | step q s _ ha hG ih =>
    have := h3 q s ha
    omega
theorem IsPass.unique {O P : Nat → Int} (h1 : IsPass W n G F O) (h2 : IsPass W n G F P) (i : Nat) (hi : i < n) : O i = P i := by
  have a := h1.sound i hi
  have b := h2.sound i hi
  have x : P i ≤ O i := by
    by_cases e : O i < 100
    · exact h2.least i _ (a.2.2 e)
    · omega
  have y : O i ≤ P i := by
    by_cases e : P i < 100
    · exact h1.least i _ (b.2.2 e)
    · omega
  omega
/-- One step of heights: a place takes a lesser one over a neighbour. -/
def setF (O : Nat → Int) (s : Nat) (v : Int) : Nat → Int := fun i => if i = s then v else O i
theorem setF_same (O : Nat → Int) (s : Nat) (v : Int) : setF O s v s = v := by simp [setF]
theorem setF_ne {O : Nat → Int} {s i : Nat} (h : i ≠ s) (v : Int) : setF O s v i = O i := by simp [setF, h]
theorem setF_le {O : Nat → Int} {s : Nat} {v : Int} (h : v ≤ O s) (i : Nat) : setF O s v i ≤ O i := by
  unfold setF; split
  · rename_i e; subst e; exact h
  · exact Int.le_refl _
theorem SoundP.set {O : Nat → Int} (h : SoundP W n G F O) {q s : Nat} (ha : adj W n q s) (hG : 0 ≤ G s) (h99 : G s ≤ 99) (hlt : max (O q) (G s) < O s) : SoundP W n G F (setF O s (max (O q) (G s))) := by
  intro i hi
  have hs := h s ha.2.1
  have hq := h q ha.1
  by_cases e : i = s
  · subst e
    rw [setF_same]
    refine ⟨by omega, by omega, fun _ => ?_⟩
    exact .step q i ((hq.2.2 (by omega)).mono (by omega)) ha (by omega)
  · rw [setF_ne e]; exact h i hi
theorem StartP.set {O : Nat → Int} (h : StartP n G F O) {s : Nat} {v : Int} (hv : v ≤ O s) : StartP n G F (setF O s v) :=
  fun i hi hF => Int.le_trans (setF_le hv i) (h i hi hF)
end

/-- The search for the least: a state with the places that are done. -/
structure Dij (W n : Nat) (G : Nat → Int) (F : Nat → Prop) (O : Nat → Int) (D : Nat → Bool) : Prop where
  sound : SoundP W n G F O
  start : StartP n G F O
  below : ∀ i j, i < n → j < n → D i = true → D j = false → O i ≤ O j
  closed : ∀ q s, adj W n q s → D q = true → O s ≤ max (O q) (G s)
/-- In the midst of a turn: the neighbours in S of the place b have been seen. -/
structure DijT (W n : Nat) (G : Nat → Int) (F : Nat → Prop) (O : Nat → Int) (D : Nat → Bool) (b : Nat) (S : Nat → Prop) : Prop where
  sound : SoundP W n G F O
  start : StartP n G F O
  done : D b = true
  below : ∀ i j, i < n → j < n → D i = true → D j = false → O i ≤ O j
  top : ∀ i, i < n → D i = true → O i ≤ O b
  closed : ∀ q s, adj W n q s → D q = true → (q ≠ b ∨ S s) → O s ≤ max (O q) (G s)
section
variable {W n : Nat} {G : Nat → Int} {F : Nat → Prop} {O : Nat → Int} {D : Nat → Bool}
theorem Dij.turn (h : Dij W n G F O D) {b : Nat} (hb : b < n) (hD : D b = false) (hmin : ∀ i, i < n → D i = false → O b ≤ O i) :
    DijT W n G F O (fun i => if i = b then true else D i) b (fun _ => False) := by
  refine ⟨h.sound, h.start, by simp, ?_, ?_, ?_⟩
  · intro i j hi hj h1 h2
    by_cases e2 : j = b
    · simp [e2] at h2
    · simp only [e2, if_false] at h2
      by_cases e1 : i = b
      · subst e1; exact hmin j hj h2
      · simp only [e1, if_false] at h1; exact h.below i j hi hj h1 h2
  · intro i hi h1
    by_cases e1 : i = b
    · subst e1; exact Int.le_refl _
    · simp only [e1, if_false] at h1; exact h.below i b hi hb h1 hD
  · intro q s ha h1 h2
    rcases h2 with h2 | h2
    · simp only [h2, if_false] at h1; exact h.closed q s ha h1
    · exact h2.elim
theorem DijT.see {b : Nat} {S : Nat → Prop} (h : DijT W n G F O D b S) {s : Nat} (ha : adj W n b s) (hG : 0 ≤ G s) (h99 : G s ≤ 99) :
    DijT W n G F (setF O s (min (O s) (max (O b) (G s)))) D b (fun j => S j ∨ j = s) := by
  have hbs : b ≠ s := by
    rintro rfl
    have := ha.2.2
    omega
  by_cases hlt : max (O b) (G s) < O s
  · rw [Int.min_eq_right (by omega)]
    have hsD : D s = false := by
      cases e : D s
      · rfl
      · have := h.top s ha.2.1 e; omega
    have key : ∀ i, D i = true → setF O s (max (O b) (G s)) i = O i := by
      intro i hi
      apply setF_ne
      rintro rfl
      rw [hsD] at hi; cases hi
    refine ⟨h.sound.set ha hG h99 hlt, h.start.set (by omega), h.done, ?_, ?_, ?_⟩
    · intro i j hi hj h1 h2
      rw [key i h1]
      by_cases e : j = s
      · subst e; rw [setF_same]; have := h.top i hi h1; omega
      · rw [setF_ne e]; exact h.below i j hi hj h1 h2
    · intro i hi h1
      rw [key i h1, key b h.done]; exact h.top i hi h1
    · intro q t hq h1 h2
      rw [key q h1]
      by_cases e : t = s
      · subst e
        rw [setF_same]
        have := h.top q hq.1 h1
        by_cases e2 : q = b
        · subst e2; exact Int.le_refl _
        · have := h.closed q t hq h1 (.inl e2); omega
      · rw [setF_ne e]
        refine h.closed q t hq h1 ?_
        rcases h2 with h2 | h2 | h2
        · exact .inl h2
        · exact .inr h2
        · exact (e h2).elim
  · rw [Int.min_eq_left (by omega)]
    have e0 : setF O s (O s) = O := by
      funext i; unfold setF; split
      · rename_i e; rw [e]
      · rfl
    rw [e0]
    refine ⟨h.sound, h.start, h.done, h.below, h.top, ?_⟩
    intro q t hq h1 h2
    by_cases e : q = b ∧ t = s
    · obtain ⟨rfl, rfl⟩ := e; omega
    · refine h.closed q t hq h1 ?_
      rcases h2 with h2 | h2 | h2
      · exact .inl h2
      · exact .inr h2
      · subst h2; exact .inl (fun e2 => e ⟨e2, rfl⟩)
theorem DijT.end_ {b : Nat} {S : Nat → Prop} (h : DijT W n G F O D b S) (hS : ∀ s, adj W n b s → S s) : Dij W n G F O D :=
  ⟨h.sound, h.start, h.below, fun q s ha h1 => h.closed q s ha h1 (by
    by_cases e : q = b
    · subst e; exact .inr (hS s ha)
    · exact .inl e)⟩
theorem Dij.pass (h : Dij W n G F O D) (hD : ∀ i, i < n → D i = true) : IsPass W n G F O :=
  IsPass.of_closed h.sound h.start (fun q s ha => h.closed q s ha (hD q ha.1))
theorem Dij.init {O : Nat → Int} (h1 : SoundP W n G F O) (h2 : StartP n G F O) : Dij W n G F O (fun _ => false) :=
  ⟨h1, h2, fun _ _ _ _ h => (by cases h), fun _ _ _ h => (by cases h)⟩
end
/-- Starting heights. -/
theorem start_sound {W n : Nat} {G : Nat → Int} {F : Nat → Prop} {O : Nat → Int} (hG : ∀ i, i < n → 0 ≤ G i ∧ G i ≤ 99) (h1 : ∀ i, i < n → (F i ∧ O i = G i) ∨ (¬ F i ∧ O i = 100)) : SoundP W n G F O ∧ StartP n G F O := by
  refine ⟨fun i hi => ?_, fun i hi hF => ?_⟩
  · have g := hG i hi
    rcases h1 i hi with ⟨a, b⟩ | ⟨a, b⟩
    · rw [b]; exact ⟨by omega, by omega, fun _ => .start i hi a (Int.le_refl _)⟩
    · rw [b]; exact ⟨by omega, by omega, fun h => absurd h (by omega)⟩
  · rcases h1 i hi with ⟨_, b⟩ | ⟨a, _⟩
    · rw [b]; exact Int.le_refl _
    · exact absurd hF a

/-- The least heights, as a list. -/
noncomputable def passL (W n : Nat) (G : Nat → Int) (F : Nat → Prop) : List Int :=
  open Classical in if h : ∃ O, IsPass W n G F O then (List.range n).map h.choose else []
theorem passL_of {W n : Nat} {G : Nat → Int} {F : Nat → Prop} {O : Nat → Int} (h : IsPass W n G F O) : (List.range n).map O = passL W n G F := by
  have hx : ∃ O, IsPass W n G F O := ⟨O, h⟩
  rw [passL, dif_pos hx]
  apply List.map_congr_left
  intro i hi
  exact h.unique hx.choose_spec i (List.mem_range.1 hi)
theorem IsPass.eq_of {W n : Nat} {G : Nat → Int} {F : Nat → Prop} {L : List Int} (hl : L.length = n) (h : IsPass W n G F (L.getD · 0)) : L = passL W n G F := by
  rw [← passL_of h]
  apply List.ext_getElem
  · simp [hl]
  · intro i h1 h2
    simp [List.getD_eq_getElem?_getD, List.getElem?_eq_getElem h1]
end Go.Proofs.Ytkamkjbllmgifaa

namespace Go.Proofs.Ytkamkjbllmgifaa
open Go.RowKit

theorem plD {W x y : Nat} (hx : x < W) : (y * W + x) / W = y := by
  rw [Nat.mul_comm, Nat.mul_add_div (by omega), Nat.div_eq_of_lt hx, Nat.add_zero]
theorem plM {W x y : Nat} (hx : x < W) : (y * W + x) % W = x := by
  rw [Nat.mul_comm, Nat.mul_add_mod, Nat.mod_eq_of_lt hx]
theorem pl_lt {W H x y : Nat} (hx : x < W) (hy : y < H) : y * W + x < W * H := by
  have : (y + 1) * W ≤ H * W := Nat.mul_le_mul_right _ (by omega)
  rw [Nat.mul_comm W H]
  rw [Nat.succ_mul] at this
  omega
theorem pl_eq {W : Nat} (i : Nat) (hW : 0 < W) : i = i / W * W + i % W ∧ i % W < W := by
  have h1 := Nat.div_add_mod i W
  have h2 := Nat.mod_lt i hW
  rw [Nat.mul_comm] at h1
  exact ⟨h1.symm, h2⟩
theorem pl_row {W H i : Nat} (h : i < W * H) : i / W < H := Nat.div_lt_of_lt_mul h
theorem adj_xy {W H x y x' y' : Nat} (hx : x < W) (hy : y < H) (hx' : x' < W) (hy' : y' < H) :
    adj W (W * H) (y * W + x) (y' * W + x') ↔ (x = x' ∧ (y + 1 = y' ∨ y' + 1 = y)) ∨ (y = y' ∧ (x + 1 = x' ∨ x' + 1 = x)) := by
  unfold adj
  rw [plD hx, plM hx, plD hx', plM hx']
  constructor
  · exact fun h => h.2.2
  · exact fun h => ⟨pl_lt hx hy, pl_lt hx' hy', h⟩

/-- The four neighbours, in reading order. -/
def arL (x y : Int) : List (Int × Int) := [(x, y - 1), (x - 1, y), (x + 1, y), (x, y + 1)]
def inG (W H : Nat) (p : Int × Int) : Bool := inB p.1 0 ((W : Int) - 1) && inB p.2 0 ((H : Int) - 1)
theorem inG_iff {W H : Nat} {p : Int × Int} : inG W H p = true ↔ (0 ≤ p.1 ∧ p.1 < W) ∧ 0 ≤ p.2 ∧ p.2 < H := by
  simp [inG, inB]; omega
/-- The place of a spot. -/
def plc (W : Nat) (p : Int × Int) : Nat := p.2.toNat * W + p.1.toNat
theorem plc_lt {W H : Nat} {p : Int × Int} (h : inG W H p = true) : plc W p < W * H := by
  rw [inG_iff] at h
  exact pl_lt (by omega) (by omega)
theorem arL_adj {W H x y : Nat} (hx : x < W) (hy : y < H) (k : Nat) (hk : k < 4) (h : inG W H ((arL x y).getD k (0, 0)) = true) :
    adj W (W * H) (plc W ((arL x y).getD k (0, 0))) (y * W + x) := by
  rw [inG_iff] at h
  have e : k = 0 ∨ k = 1 ∨ k = 2 ∨ k = 3 := by omega
  unfold plc
  rw [adj_xy (by omega) (by omega) hx hy]
  rcases e with e | e | e | e <;> subst e <;> simp [arL] at h ⊢ <;> omega
theorem arL_all {W H x y j : Nat} (hx : x < W) (hy : y < H) (h : adj W (W * H) j (y * W + x)) :
    ∃ k, k < 4 ∧ inG W H ((arL x y).getD k (0, 0)) = true ∧ plc W ((arL x y).getD k (0, 0)) = j := by
  obtain ⟨e, hm⟩ := pl_eq j (show 0 < W by omega)
  have hr := pl_row h.1
  generalize j / W = y' at *
  generalize j % W = x' at *
  subst e
  rw [adj_xy hm hr hx hy] at h
  have key : ∀ k, (∀ p, (arL x y).getD k (0, 0) = p → p.1 = x' ∧ p.2 = y') → k < 4 → ∃ k, k < 4 ∧ inG W H ((arL x y).getD k (0, 0)) = true ∧ plc W ((arL x y).getD k (0, 0)) = y' * W + x' := by
    intro k hp hk
    obtain ⟨h1, h2⟩ := hp _ rfl
    refine ⟨k, hk, ?_, ?_⟩
    · rw [inG_iff, h1, h2]; omega
    · unfold plc; rw [h1, h2]; simp
  rcases h with ⟨h1, h2 | h2⟩ | ⟨h1, h2 | h2⟩
  · exact key 0 (by rintro p rfl; simp [arL]; omega) (by omega)
  · exact key 3 (by rintro p rfl; simp [arL]; omega) (by omega)
  · exact key 1 (by rintro p rfl; simp [arL]; omega) (by omega)
  · exact key 2 (by rintro p rfl; simp [arL]; omega) (by omega)

def sumF (O : Nat → Int) : Nat → Nat
  | 0 => 0
  | k + 1 => sumF O k + (O k).toNat
theorem sumF_out (O : Nat → Int) (s : Nat) (v : Int) : ∀ k, k ≤ s → sumF (setF O s v) k = sumF O k := by
  intro k
  induction k with
  | zero => intro _; rfl
  | succ k ih => intro h; rw [sumF, sumF, ih (by omega), setF_ne (by omega)]
theorem sumF_set {O : Nat → Int} {s : Nat} {v : Int} (h0 : 0 ≤ v) (h : v < O s) : ∀ k, s < k → sumF (setF O s v) k < sumF O k := by
  intro k
  induction k with
  | zero => intro h; omega
  | succ k ih =>
    intro hk
    rw [sumF, sumF]
    by_cases e : s = k
    · subst e
      rw [sumF_out O s v s (Nat.le_refl _), setF_same]; omega
    · rw [setF_ne (by omega)]
      have := ih (by omega)
      omega

/-- In the midst of a pass over all places. -/
structure Half (W n : Nat) (G : Nat → Int) (F : Nat → Prop) (O0 O : Nat → Int) (again : Bool) (T : Nat → Nat → Prop) : Prop where
  sound : SoundP W n G F O
  start : StartP n G F O
  no : again = false → O = O0 ∧ ∀ q s, adj W n q s → T q s → O s ≤ max (O q) (G s)
  yes : again = true → sumF O n < sumF O0 n
section
variable {W n : Nat} {G : Nat → Int} {F : Nat → Prop} {O0 O : Nat → Int} {again : Bool} {T : Nat → Nat → Prop}
theorem Half.init (h1 : SoundP W n G F O) (h2 : StartP n G F O) : Half W n G F O O false (fun _ _ => False) :=
  ⟨h1, h2, fun _ => ⟨rfl, fun _ _ _ h => h.elim⟩, fun h => (by cases h)⟩
theorem Half.low (h : Half W n G F O0 O again T) {q s : Nat} (ha : adj W n q s) (hG : 0 ≤ G s) (h99 : G s ≤ 99) (hlt : max (O q) (G s) < O s) :
    Half W n G F O0 (setF O s (max (O q) (G s))) true (fun a b => T a b ∨ (a = q ∧ b = s)) := by
  refine ⟨h.sound.set ha hG h99 hlt, h.start.set (by omega), fun h => (by cases h), fun _ => ?_⟩
  have h1 := sumF_set (O := O) (s := s) (v := max (O q) (G s)) (by omega) hlt n ha.2.1
  cases e : again
  · obtain ⟨rfl, _⟩ := h.no e; exact h1
  · have := h.yes e; omega
theorem Half.stay (h : Half W n G F O0 O again T) {q s : Nat} (hge : ¬ max (O q) (G s) < O s) :
    Half W n G F O0 O again (fun a b => T a b ∨ (a = q ∧ b = s)) := by
  refine ⟨h.sound, h.start, fun e => ⟨(h.no e).1, fun a b hab hT => ?_⟩, h.yes⟩
  rcases hT with hT | ⟨rfl, rfl⟩
  · exact (h.no e).2 a b hab hT
  · omega
theorem Half.pass (h : Half W n G F O0 O false T) (hT : ∀ q s, adj W n q s → T q s) : IsPass W n G F O :=
  IsPass.of_closed h.sound h.start (fun q s ha => (h.no rfl).2 q s ha (hT q s ha))
end
end Go.Proofs.Ytkamkjbllmgifaa
