/- Ways over places and their least heights: the plain part. -/
import Derived.Test.YtajepoopicoodaaBase
namespace Go.Proofs.Ytajepoopicoodaa
open Go.RowKit

/-- Neighbours in a picture with W columns and n places. -/
def adj (W n : Nat) (i j : Nat) : Prop :=
  i < n ∧ j < n ∧ ((i % W = j % W ∧ (i / W + 1 = j / W ∨ j / W + 1 = i / W)) ∨ (i / W = j / W ∧ (i % W + 1 = j % W ∨ j % W + 1 = i % W)))
theorem adj.symm {W n i j : Nat} (h : adj W n i j) : adj W n j i := by
  obtain ⟨h1, h2, h3⟩ := h
  refine ⟨h2, h1, ?_⟩
  rcases h3 with ⟨a, b⟩ | ⟨a, b⟩
  · exact .inl ⟨a.symm, b.symm⟩
  · exact .inr ⟨a.symm, b.symm⟩

section
variable (W n : Nat) (G : Nat → Int) (F : Nat → Prop)
/-- A place that a way reaches from a place in F, with numbers of at most h. -/
inductive Way (h : Int) : Nat → Prop
  | start (i : Nat) (hi : i < n) (hF : F i) (hG : G i ≤ h) : Way h i
  | step (q s : Nat) (hq : Way h q) (ha : adj W n q s) (hG : G s ≤ h) : Way h s
end
section
variable {W n : Nat} {G : Nat → Int} {F : Nat → Prop}
theorem Way.lt {h : Int} {i : Nat} (w : Way W n G F h i) : i < n := by
  cases w with
  | start i hi _ _ => exact hi
  | step q s _ ha _ => exact ha.2.1
theorem Way.le {h : Int} {i : Nat} (w : Way W n G F h i) : G i ≤ h := by
  cases w with
  | start i _ _ hG => exact hG
  | step q s _ _ hG => exact hG
theorem Way.mono {h k : Int} {i : Nat} (w : Way W n G F h i) (hk : h ≤ k) : Way W n G F k i := by
  induction w with
  | start i hi hF hG => exact .start i hi hF (Int.le_trans hG hk)
  | step q s _ ha hG ih => exact .step q s ih ha (Int.le_trans hG hk)
end

section
variable (W n : Nat) (G : Nat → Int) (F : Nat → Prop)
/-- Heights that are those of ways, or 100. -/
def SoundP (O : Nat → Int) : Prop := ∀ i, i < n → 0 ≤ O i ∧ O i ≤ 100 ∧ (O i < 100 → Way W n G F (O i) i)
def StartP (O : Nat → Int) : Prop := ∀ i, i < n → F i → O i ≤ G i
def ClosedP (O : Nat → Int) : Prop := ∀ q s, adj W n q s → O s ≤ max (O q) (G s)
/-- The least heights of ways. -/
structure IsPass (O : Nat → Int) : Prop where
  sound : SoundP W n G F O
  least : ∀ i h, Way W n G F h i → O i ≤ h
end
section
variable {W n : Nat} {G : Nat → Int} {F : Nat → Prop}
theorem IsPass.of_closed {O : Nat → Int} (h1 : SoundP W n G F O) (h2 : StartP n G F O) (h3 : ClosedP W n G O) : IsPass W n G F O := by
  refine ⟨h1, fun i h w => ?_⟩
  induction w with
  | start i hi hF hG => exact Int.le_trans (h2 i hi hF) hG
  | step q s _ ha hG ih =>
    have := h3 q s ha
    omega
theorem IsPass.unique {O P : Nat → Int} (h1 : IsPass W n G F O) (h2 : IsPass W n G F P) (i : Nat) (hi : i < n) : O i = P i := by
  have a := h1.sound i hi
  have b := h2.sound i hi
  have x : P i ≤ O i := by
    by_cases e : O i < 100
    · exact h2.least i _ (a.2.2 e)
    · omega
  have y : O i ≤ P i := by
    by_cases e : P i < 100
    · exact h1.least i _ (b.2.2 e)
    · omega
  omega
/-- One step of heights: a place takes a lesser one over a neighbour. -/
def setF (O : Nat → Int) (s : Nat) (v : Int) : Nat → Int := fun i => if i = s then v else O i
theorem setF_same (O : Nat → Int) (s : Nat) (v : Int) : setF O s v s = v := by simp [setF]
theorem setF_ne {O : Nat → Int} {s i : Nat} (h : i ≠ s) (v : Int) : setF O s v i = O i := by simp [setF, h]
theorem setF_le {O : Nat → Int} {s : Nat} {v : Int} (h : v ≤ O s) (i : Nat) : setF O s v i ≤ O i := by
  unfold setF; split
  · rename_i e; subst e; exact h
  · exact Int.le_refl _
theorem SoundP.set {O : Nat → Int} (h : SoundP W n G F O) {q s : Nat} (ha : adj W n q s) (hG : 0 ≤ G s) (h99 : G s ≤ 99) (hlt : max (O q) (G s) < O s) : SoundP W n G F (setF O s (max (O q) (G s))) := by
  intro i hi
  have hs := h s ha.2.1
  have hq := h q ha.1
  by_cases e : i = s
  · subst e
    rw [setF_same]
    refine ⟨by omega, by omega, fun _ => ?_⟩
    exact .step q i ((hq.2.2 (by omega)).mono (by omega)) ha (by omega)
  · rw [setF_ne e]; exact h i hi
theorem StartP.set {O : Nat → Int} (h : StartP n G F O) {s : Nat} {v : Int} (hv : v ≤ O s) : StartP n G F (setF O s v) :=
  fun i hi hF => Int.le_trans (setF_le hv i) (h i hi hF)
end

/-- The search for the least: a state with the places that are done. -/
structure Dij (W n : Nat) (G : Nat → Int) (F : Nat → Prop) (O : Nat → Int) (D : Nat → Bool) : Prop where
  sound : SoundP W n G F O
  start : StartP n G F O
  below : ∀ i j, i < n → j < n → D i = true → D j = false → O i ≤ O j
  closed : ∀ q s, adj W n q s → D q = true → O s ≤ max (O q) (G s)
/-- In the midst of a turn: the neighbours in S of the place b have been seen. -/
structure DijT (W n : Nat) (G : Nat → Int) (F : Nat → Prop) (O : Nat → Int) (D : Nat → Bool) (b : Nat) (S : Nat → Prop) : Prop where
  sound : SoundP W n G F O
  start : StartP n G F O
  done : D b = true
  below : ∀ i j, i < n → j < n → D i = true → D j = false → O i ≤ O j
  top : ∀ i, i < n → D i = true → O i ≤ O b
  closed : ∀ q s, adj W n q s → D q = true → (q ≠ b ∨ S s) → O s ≤ max (O q) (G s)
section
variable {W n : Nat} {G : Nat → Int} {F : Nat → Prop} {O : Nat → Int} {D : Nat → Bool}
theorem Dij.turn (h : Dij W n G F O D) {b : Nat} (hb : b < n) (hD : D b = false) (hmin : ∀ i, i < n → D i = false → O b ≤ O i) :
    DijT W n G F O (fun i => if i = b then true else D i) b (fun _ => False) := by
  refine ⟨h.sound, h.start, by simp, ?_, ?_, ?_⟩
  · intro i j hi hj h1 h2
    by_cases e2 : j = b
    · simp [e2] at h2
    · simp only [e2, if_false] at h2
      by_cases e1 : i = b
      · subst e1; exact hmin j hj h2
      · simp only [e1, if_false] at h1; exact h.below i j hi hj h1 h2
  · intro i hi h1
    by_cases e1 : i = b
    · subst e1; exact Int.le_refl _
    · simp only [e1, if_false] at h1; exact h.below i b hi hb h1 hD
  · intro q s ha h1 h2
    rcases h2 with h2 | h2
    · simp only [h2, if_false] at h1; exact h.closed q s ha h1
    · exact h2.elim
theorem DijT.see {b : Nat} {S : Nat → Prop} (h : DijT W n G F O D b S) {s : Nat} (ha : adj W n b s) (hG : 0 ≤ G s) (h99 : G s ≤ 99) :
    DijT W n G F (setF O s (min (O s) (max (O b) (G s)))) D b (fun j => S j ∨ j = s) := by
  have hbs : b ≠ s := by
    rintro rfl
    have := ha.2.2
    omega
  by_cases hlt : max (O b) (G s) < O s
  · rw [Int.min_eq_right (by omega)]
    have hsD : D s = false := by
      cases e : D s
      · rfl
      · have := h.top s ha.2.1 e; omega
    have key : ∀ i, D i = true → setF O s (max (O b) (G s)) i = O i := by
      intro i hi
      apply setF_ne
      rintro rfl
      rw [hsD] at hi; cases hi
    refine ⟨h.sound.set ha hG h99 hlt, h.start.set (by omega), h.done, ?_, ?_, ?_⟩
    · intro i j hi hj h1 h2
      rw [key i h1]
      by_cases e : j = s
      · subst e; rw [setF_same]; have := h.top i hi h1; omega
      · rw [setF_ne e]; exact h.below i j hi hj h1 h2
    · intro i hi h1
      rw [key i h1, key b h.done]; exact h.top i hi h1
    · intro q t hq h1 h2
      rw [key q h1]
      by_cases e : t = s
      · subst e
        rw [setF_same]
        have := h.top q hq.1 h1
        by_cases e2 : q = b
        · subst e2; exact Int.le_refl _
        · have := h.closed q t hq h1 (.inl e2); omega
      · rw [setF_ne e]
        refine h.closed q t hq h1 ?_
        rcases h2 with h2 | h2 | h2
        · exact .inl h2
        · exact .inr h2
        · exact (e h2).elim
  · rw [Int.min_eq_left (by omega)]
    have e0 : setF O s (O s) = O := by
      funext i; unfold setF; split
      · rename_i e; rw [e]
      · rfl
    rw [e0]
    refine ⟨h.sound, h.start, h.done, h.below, h.top, ?_⟩
    intro q t hq h1 h2
    by_cases e : q = b ∧ t = s
    · obtain ⟨rfl, rfl⟩ := e; omega
    · refine h.closed q t hq h1 ?_
      rcases h2 with h2 | h2 | h2
      · exact .inl h2
      · exact .inr h2
      · subst h2; exact .inl (fun e2 => e ⟨e2, rfl⟩)
theorem DijT.end_ {b : Nat} {S : Nat → Prop} (h : DijT W n G F O D b S) (hS : ∀ s, adj W n b s → S s) : Dij W n G F O D :=
  ⟨h.sound, h.start, h.below, fun q s ha h1 => h.closed q s ha h1 (by
    by_cases e : q = b
    · subst e; exact .inr (hS s ha)
    · exact .inl e)⟩
theorem Dij.pass (h : Dij W n G F O D) (hD : ∀ i, i < n → D i = true) : IsPass W n G F O :=
  IsPass.of_closed h.sound h.start (fun q s ha => h.closed q s ha (hD q ha.1))
theorem Dij.init {O : Nat → Int} (h1 : SoundP W n G F O) (h2 : StartP n G F O) : Dij W n G F O (fun _ => false) :=
  ⟨h1, h2, fun _ _ _ _ h => (by cases h), fun _ _ _ h => (by cases h)⟩
end
/-- Starting heights. -/
theorem start_sound {W n : Nat} {G : Nat → Int} {F : Nat → Prop} {O : Nat → Int} (hG : ∀ i, i < n → 0 ≤ G i ∧ G i ≤ 99) (h1 : ∀ i, i < n → (F i ∧ O i = G i) ∨ (¬ F i ∧ O i = 100)) : SoundP W n G F O ∧ StartP n G F O := by
  refine ⟨fun i hi => ?_, fun i hi hF => ?_⟩
  · have g := hG i hi
    rcases h1 i hi with ⟨a, b⟩ | ⟨a, b⟩
    · rw [b]; exact ⟨by omega, by omega, fun _ => .start i hi a (Int.le_refl _)⟩
    · rw [b]; exact ⟨by omega, by omega, fun h => absurd h (by omega)⟩
  · rcases h1 i hi with ⟨_, b⟩ | ⟨a, _⟩
    · rw [b]; exact Int.le_refl _
    · exact absurd hF a

/-- The least heights, as a list. -/
noncomputable def passL (W n : Nat) (G : Nat → Int) (F : Nat → Prop) : List Int :=
  open Classical in if h : ∃ O, IsPass W n G F O then (List.range n).map h.choose else []
theorem passL_of {W n : Nat} {G : Nat → Int} {F : Nat → Prop} {O : Nat → Int} (h : IsPass W n G F O) : (List.range n).map O = passL W n G F := by
  have hx : ∃ O, IsPass W n G F O := ⟨O, h⟩
  rw [passL, dif_pos hx]
  apply List.map_congr_left
  intro i hi
  exact h.unique hx.choose_spec i (List.mem_range.1 hi)
theorem IsPass.eq_of {W n : Nat} {G : Nat → Int} {F : Nat → Prop} {L : List Int} (hl : L.length = n) (h : IsPass W n G F (L.getD · 0)) : L = passL W n G F := by
  rw [← passL_of h]
  apply List.ext_getElem
  · simp [hl]
  · intro i h1 h2
    simp [List.getD_eq_getElem?_getD, List.getElem?_eq_getElem h1]
end Go.Proofs.Ytajepoopicoodaa
