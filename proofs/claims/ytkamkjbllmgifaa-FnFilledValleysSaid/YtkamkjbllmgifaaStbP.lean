/- A stable sort, plain: rows as functions; insertion, rotation, symmetric merges, blocks. -/
import Derived.Test.YtkamkjbllmgifaaBase
namespace Go.Proofs.Ytkamkjbllmgifaa
namespace Stb

variable {E : Type}
/-- Elements have moved between places a and b alone. -/
def Mv (a b : Nat) (d d' : Nat → E) : Prop := ∃ s t : Nat → Nat, (∀ x, t (s x) = x) ∧ (∀ x, s (t x) = x) ∧ (∀ x, ¬ (a ≤ x ∧ x < b) → s x = x) ∧ ∀ x, d' x = d (s x)
theorem Mv.refl (a b : Nat) (d : Nat → E) : Mv a b d d := ⟨id, id, fun _ => rfl, fun _ => rfl, fun _ _ => rfl, fun _ => rfl⟩
theorem Mv.trans {a b : Nat} {d e f : Nat → E} (h : Mv a b d e) (k : Mv a b e f) : Mv a b d f := by
  obtain ⟨s, t, h1, h2, h3, h4⟩ := h
  obtain ⟨s', t', k1, k2, k3, k4⟩ := k
  refine ⟨fun x => s (s' x), fun x => t' (t x), fun x => by simp [h1, k1], fun x => by simp [h2, k2], fun x hx => ?_, fun x => by rw [k4, h4]⟩
  show s (s' x) = x
  rw [k3 x hx, h3 x hx]
theorem Mv.mono {a b a' b' : Nat} {d e : Nat → E} (h : Mv a b d e) (ha : a' ≤ a) (hb : b ≤ b') : Mv a' b' d e := by
  obtain ⟨s, t, h1, h2, h3, h4⟩ := h
  exact ⟨s, t, h1, h2, fun x hx => h3 x (by omega), h4⟩
theorem Mv.out {a b : Nat} {d e : Nat → E} (h : Mv a b d e) {x : Nat} (hx : ¬ (a ≤ x ∧ x < b)) : e x = d x := by
  obtain ⟨s, t, h1, h2, h3, h4⟩ := h
  rw [h4, h3 x hx]
theorem Mv.from {a b : Nat} {d e : Nat → E} (h : Mv a b d e) {x : Nat} (hx : a ≤ x ∧ x < b) : ∃ y, (a ≤ y ∧ y < b) ∧ e x = d y := by
  obtain ⟨s, t, h1, h2, h3, h4⟩ := h
  refine ⟨s x, ?_, h4 x⟩
  by_cases hs : a ≤ s x ∧ s x < b
  · exact hs
  · have h5 := h3 (s x) hs
    have h6 := h1 (s x)
    rw [h5, h1] at h6
    rw [← h6]; exact hx
theorem Mv.to {a b : Nat} {d e : Nat → E} (h : Mv a b d e) {x : Nat} (hx : a ≤ x ∧ x < b) : ∃ y, (a ≤ y ∧ y < b) ∧ d x = e y := by
  obtain ⟨s, t, h1, h2, h3, h4⟩ := h
  refine ⟨t x, ?_, by rw [h4, h2]⟩
  by_cases hs : a ≤ t x ∧ t x < b
  · exact hs
  · have h5 := h3 (t x) hs
    rw [h2] at h5
    rw [← h5]; exact hx
def swp (d : Nat → E) (i j : Nat) : Nat → E := fun x => if x = i then d j else if x = j then d i else d x
theorem Mv.swp {a b : Nat} (d : Nat → E) {i j : Nat} (hi : a ≤ i ∧ i < b) (hj : a ≤ j ∧ j < b) : Mv a b d (swp d i j) := by
  have h : ∀ x : Nat, (fun x => if x = i then j else if x = j then i else x) ((fun x => if x = i then j else if x = j then i else x) x) = x := by
    intro x
    simp only
    by_cases h1 : x = i
    · subst h1
      rw [if_pos rfl]
      by_cases h2 : j = x
      · rw [if_pos h2]; exact h2
      · rw [if_neg h2, if_pos rfl]
    · rw [if_neg h1]
      by_cases h2 : x = j
      · rw [if_pos h2, if_pos rfl]; exact h2.symm
      · rw [if_neg h2, if_neg h1, if_neg h2]
  refine ⟨fun x => if x = i then j else if x = j then i else x, fun x => if x = i then j else if x = j then i else x, h, h, fun x hx => ?_, fun x => ?_⟩
  · simp only
    rw [if_neg (by omega), if_neg (by omega)]
  · simp only [Stb.swp]
    split
    · rfl
    · split <;> rfl
/-- The first part behind the second. -/
def rot (d : Nat → E) (a m b : Nat) : Nat → E := fun x => if x < a then d x else if x < a + (b - m) then d (x + (m - a)) else if x < b then d (x - (b - m)) else d x
theorem Mv.rot {a m b : Nat} (d : Nat → E) (h1 : a ≤ m) (h2 : m ≤ b) : Mv a b d (rot d a m b) := by
  refine ⟨fun x => if x < a then x else if x < a + (b - m) then x + (m - a) else if x < b then x - (b - m) else x, fun x => if x < a then x else if x < m then x + (b - m) else if x < b then x - (m - a) else x, fun x => ?_, fun x => ?_, fun x hx => ?_, fun x => ?_⟩
  · simp only
    repeat' split
    all_goals omega
  · simp only
    repeat' split
    all_goals omega
  · simp only
    repeat' split
    all_goals omega
  · simp only [Stb.rot]
    repeat' split
    all_goals first | rfl | omega
/-- n places from i on and n from j on, swapped. -/
def swr (d : Nat → E) (i j n : Nat) : Nat → E := fun x => if i ≤ x ∧ x < i + n then d (x - i + j) else if j ≤ x ∧ x < j + n then d (x - j + i) else d x
theorem swr_zero (d : Nat → E) (i j : Nat) : swr d i j 0 = d := by
  funext x
  unfold swr
  rw [if_neg (by omega), if_neg (by omega)]
theorem swr_step (d : Nat → E) (i j n : Nat) (h : i + n < j) : swp (swr d i j n) (i + n) (j + n) = swr d i j (n + 1) := by
  funext x
  unfold swp swr
  repeat' split
  all_goals first | (exfalso; omega) | skip
  all_goals first | rfl | (congr 1; omega)
/-- Steps of a rotation. -/
theorem rot_left (d : Nat → E) (m i j : Nat) (hi : i ≤ m) (hj : 0 < j) (h : j < i) : rot (swr d (m - i) m j) (m - (i - j)) m (m + j) = rot d (m - i) m (m + j) := by
  funext x
  unfold rot swr
  repeat' split
  all_goals first | (exfalso; omega) | skip
  all_goals first | rfl | (congr 1; omega)
theorem rot_right (d : Nat → E) (m i j : Nat) (hi : i ≤ m) (h0 : 0 < i) (h : i < j) : rot (swr d (m - i) (m + j - i) i) (m - i) m (m + (j - i)) = rot d (m - i) m (m + j) := by
  funext x
  unfold rot swr
  repeat' split
  all_goals first | (exfalso; omega) | skip
  all_goals first | rfl | (congr 1; omega)
theorem rot_end (d : Nat → E) (m i : Nat) (hi : i ≤ m) : swr d (m - i) m i = rot d (m - i) m (m + i) := by
  funext x
  unfold rot swr
  repeat' split
  all_goals first | (exfalso; omega) | skip
  all_goals first | rfl | (congr 1; omega)
/-- Element i moved down to place j. -/
def ins (d : Nat → E) (i j : Nat) : Nat → E := fun x => if x < j then d x else if x = j then d i else if x ≤ i then d (x - 1) else d x
theorem ins_self (d : Nat → E) (i : Nat) : ins d i i = d := by
  funext x
  unfold ins
  repeat' split
  all_goals first | (exfalso; omega) | skip
  all_goals first | rfl | (congr 1; omega)
theorem ins_step (d : Nat → E) (i j : Nat) (h0 : 0 < j) (h : j ≤ i) : swp (ins d i j) j (j - 1) = ins d i (j - 1) := by
  funext x
  unfold swp ins
  repeat' split
  all_goals first | (exfalso; omega) | skip
  all_goals first | rfl | (congr 1; omega)
theorem ins_mv (d : Nat → E) {a b i : Nat} (hb : i < b) : ∀ k, a + k ≤ i → Mv a b d (ins d i (i - k)) := by
  intro k
  induction k with
  | zero => intro _; rw [Nat.sub_zero, ins_self]; exact Mv.refl _ _ _
  | succ k ih =>
    intro h
    have := ins_step d i (i - k) (by omega) (by omega)
    rw [show i - k - 1 = i - (k + 1) by omega] at this
    rw [← this]
    exact (ih (by omega)).trans (Mv.swp _ (by omega) (by omega))
/-- Element a moved up to place k. -/
def inu (d : Nat → E) (a k : Nat) : Nat → E := fun x => if x < a then d x else if x < k then d (x + 1) else if x = k then d a else d x
theorem inu_self (d : Nat → E) (a : Nat) : inu d a a = d := by
  funext x
  unfold inu
  repeat' split
  all_goals first | (exfalso; omega) | skip
  all_goals first | rfl | (congr 1; omega)
theorem inu_step (d : Nat → E) (a k : Nat) (h : a ≤ k) : swp (inu d a k) k (k + 1) = inu d a (k + 1) := by
  funext x
  unfold swp inu
  repeat' split
  all_goals first | (exfalso; omega) | skip
  all_goals first | rfl | (congr 1; omega)
theorem inu_mv (d : Nat → E) {a b a' : Nat} (ha : a ≤ a') : ∀ k, a' + k < b → Mv a b d (inu d a' (a' + k)) := by
  intro k
  induction k with
  | zero => intro _; rw [Nat.add_zero, inu_self]; exact Mv.refl _ _ _
  | succ k ih =>
    intro h
    rw [← Nat.add_assoc, ← inu_step d a' (a' + k) (by omega)]
    exact (ih (by omega)).trans (Mv.swp _ (by omega) (by omega))

variable (key pl : E → Int)
/-- By key, then by place in the given order. -/
def lx (x y : E) : Prop := key x < key y ∨ (key x = key y ∧ pl x < pl y)
def Srt (a b : Nat) (d : Nat → E) : Prop := ∀ i j, a ≤ i → i < j → j < b → lx key pl (d i) (d j)
/-- The given order between two parts. -/
def Pl (a m b : Nat) (d : Nat → E) : Prop := ∀ i j, a ≤ i → i < m → m ≤ j → j < b → pl (d i) < pl (d j)
/-- The given order within a part. -/
def Asc (a b : Nat) (d : Nat → E) : Prop := ∀ i j, a ≤ i → i < j → j < b → pl (d i) < pl (d j)
variable {key pl}
theorem lx_trans {x y z : E} (h : lx key pl x y) (k : lx key pl y z) : lx key pl x z := by
  unfold lx at *; omega
theorem lx_key {x y : E} (h : lx key pl x y) : key x ≤ key y := by unfold lx at h; omega
theorem Srt.sub {a b a' b' : Nat} {d : Nat → E} (h : Srt key pl a b d) (ha : a ≤ a') (hb : b' ≤ b) : Srt key pl a' b' d := fun i j h1 h2 h3 => h i j (by omega) h2 (by omega)
theorem Srt.congr {a b : Nat} {d e : Nat → E} (h : Srt key pl a b d) (he : ∀ x, a ≤ x → x < b → e x = d x) : Srt key pl a b e := fun i j h1 h2 h3 => by
  rw [he i h1 (by omega), he j (by omega) h3]; exact h i j h1 h2 h3
theorem Srt.one {a b : Nat} {d : Nat → E} (h : b ≤ a + 1) : Srt key pl a b d := fun i j h1 h2 h3 => by omega
/-- An insertion. -/
theorem ins_srt {a i j : Nat} {d : Nat → E} (hs : Srt key pl a i d) (hp : ∀ x, a ≤ x → x < i → pl (d x) < pl (d i)) (haj : a ≤ j) (hji : j ≤ i)
    (h1 : ∀ x, j ≤ x → x < i → key (d i) < key (d x)) (h2 : ∀ x, a ≤ x → x < j → key (d x) ≤ key (d i)) : Srt key pl a (i + 1) (ins d i j) := by
  intro x y hx hxy hy
  unfold ins
  by_cases a1 : y < j
  · rw [if_pos (show x < j by omega), if_pos a1]
    exact hs x y hx hxy (by omega)
  · rw [if_neg a1]
    by_cases a2 : y = j
    · rw [if_pos (show x < j by omega), if_pos a2]
      have := h2 x hx (by omega)
      have := hp x hx (by omega)
      unfold lx; omega
    · rw [if_neg a2, if_pos (show y ≤ i by omega)]
      by_cases b1 : x < j
      · rw [if_pos b1]
        exact hs x (y - 1) hx (by omega) (by omega)
      · rw [if_neg b1]
        by_cases b2 : x = j
        · rw [if_pos b2]
          exact .inl (h1 (y - 1) (by omega) (by omega))
        · rw [if_neg b2, if_pos (show x ≤ i by omega)]
          exact hs (x - 1) (y - 1) (by omega) (by omega) (by omega)
theorem inu_srt {a b i : Nat} {d : Nat → E} (hs : Srt key pl (a + 1) b d) (hp : ∀ x, a < x → x < b → pl (d a) < pl (d x)) (hai : a < i) (hib : i ≤ b)
    (h1 : ∀ x, a < x → x < i → key (d x) < key (d a)) (h2 : ∀ x, i ≤ x → x < b → key (d a) ≤ key (d x)) : Srt key pl a b (inu d a (i - 1)) := by
  intro x y hx hxy hy
  unfold inu
  rw [if_neg (show ¬ x < a by omega), if_neg (show ¬ y < a by omega)]
  by_cases a1 : y < i - 1
  · rw [if_pos (show x < i - 1 by omega), if_pos a1]
    exact hs (x + 1) (y + 1) (by omega) (by omega) (by omega)
  · rw [if_neg a1]
    by_cases a2 : y = i - 1
    · rw [if_pos (show x < i - 1 by omega), if_pos a2]
      exact .inl (h1 (x + 1) (by omega) (by omega))
    · rw [if_neg a2]
      by_cases b1 : x < i - 1
      · rw [if_pos b1]
        exact hs (x + 1) y (by omega) (by omega) hy
      · rw [if_neg b1]
        by_cases b2 : x = i - 1
        · rw [if_pos b2]
          have := h2 y (by omega) hy
          have := hp y (by omega) hy
          unfold lx; omega
        · rw [if_neg b2]
          exact hs x y (by omega) hxy hy
/-- The middle step of a symmetric merge. -/
theorem mid_srt {a m b s : Nat} {d : Nat → E} (h1 : Srt key pl a m d) (h2 : Srt key pl m b d) (hs : a ≤ s) (hm : s ≤ m) (he : m ≤ (a + b) / 2 + m - s) (hb : (a + b) / 2 + m - s ≤ b) (ham : a < m) (hmb : m < b)
    (c1 : a < s → (a + b) / 2 + m - s < b → lx key pl (d (s - 1)) (d ((a + b) / 2 + m - s)))
    (c2 : s < m → m < (a + b) / 2 + m - s → lx key pl (d ((a + b) / 2 + m - s - 1)) (d s)) :
    (∀ i j, a ≤ i → i < (a + b) / 2 → (a + b) / 2 ≤ j → j < b → lx key pl (rot d s m ((a + b) / 2 + m - s) i) (rot d s m ((a + b) / 2 + m - s) j)) ∧
    Srt key pl a s (rot d s m ((a + b) / 2 + m - s)) ∧ Srt key pl s ((a + b) / 2) (rot d s m ((a + b) / 2 + m - s)) ∧ Srt key pl ((a + b) / 2) ((a + b) / 2 + m - s) (rot d s m ((a + b) / 2 + m - s)) ∧ Srt key pl ((a + b) / 2 + m - s) b (rot d s m ((a + b) / 2 + m - s)) := by
  generalize hmid : (a + b) / 2 = mid at *
  have hmb2 : mid < b := by omega
  have ham2 : a ≤ mid := by omega
  generalize hE : mid + m - s = e at *
  have r1 : ∀ x, x < s → rot d s m e x = d x := fun x hx => by unfold rot; rw [if_pos hx]
  have r2 : ∀ x, s ≤ x → x < mid → rot d s m e x = d (x + (m - s)) := fun x hx hy => by unfold rot; rw [if_neg (by omega), if_pos (by omega)]
  have r3 : ∀ x, mid ≤ x → x < e → s ≤ mid → rot d s m e x = d (x - (e - m)) := fun x hx hy h => by unfold rot; rw [if_neg (by omega), if_neg (by omega), if_pos (by omega)]
  have r4 : ∀ x, e ≤ x → rot d s m e x = d x := fun x hx => by unfold rot; rw [if_neg (by omega), if_neg (by omega), if_neg (by omega)]
  have hsm : s ≤ mid := by omega
  -- all that stays left is less than all that stays right
  have le : ∀ {x y : Nat}, x ≤ y → (a ≤ x ∧ y < m ∨ m ≤ x ∧ y < b) → x = y ∨ lx key pl (d x) (d y) := by
    intro x y hxy hc
    by_cases e0 : x = y
    · exact .inl e0
    · rcases hc with hc | hc
      · exact .inr (h1 x y hc.1 (by omega) hc.2)
      · exact .inr (h2 x y hc.1 (by omega) hc.2)
  have LL : ∀ x y, a ≤ x → x < s → s ≤ y → y < m → lx key pl (d x) (d y) := fun x y p1 p2 p3 p4 => h1 x y p1 (by omega) p4
  have RR : ∀ x y, m ≤ x → x < e → e ≤ y → y < b → lx key pl (d x) (d y) := fun x y p1 p2 p3 p4 => h2 x y p1 (by omega) p4
  have LR : ∀ x y, a ≤ x → x < s → e ≤ y → y < b → lx key pl (d x) (d y) := by
    intro x y p1 p2 p3 p4
    have c := c1 (by omega) (by omega)
    have c' : lx key pl (d x) (d e) := by
      rcases le (x := x) (y := s - 1) (by omega) (.inl ⟨p1, by omega⟩) with q | q
      · rw [q]; exact c
      · exact lx_trans q c
    rcases le (x := e) (y := y) p3 (.inr ⟨he, p4⟩) with q | q
    · rw [← q]; exact c'
    · exact lx_trans c' q
  have RL : ∀ x y, m ≤ x → x < e → s ≤ y → y < m → lx key pl (d x) (d y) := by
    intro x y p1 p2 p3 p4
    have c := c2 (by omega) (by omega)
    have c' : lx key pl (d x) (d s) := by
      rcases le (x := x) (y := e - 1) (by omega) (.inr ⟨p1, by omega⟩) with q | q
      · rw [q]; exact c
      · exact lx_trans q c
    rcases le (x := s) (y := y) p3 (.inl ⟨hs, p4⟩) with q | q
    · rw [← q]; exact c'
    · exact lx_trans c' q
  refine ⟨fun i j hi hi2 hj hj2 => ?_, fun i j p1 p2 p3 => ?_, fun i j p1 p2 p3 => ?_, fun i j p1 p2 p3 => ?_, fun i j p1 p2 p3 => ?_⟩
  · by_cases q1 : i < s
    · rw [r1 i q1]
      by_cases q2 : j < e
      · rw [r3 j hj q2 hsm]
        exact LL i _ hi q1 (by omega) (by omega)
      · rw [r4 j (by omega)]
        exact LR i j hi q1 (by omega) hj2
    · rw [r2 i (by omega) hi2]
      by_cases q2 : j < e
      · rw [r3 j hj q2 hsm]
        exact RL _ _ (by omega) (by omega) (by omega) (by omega)
      · rw [r4 j (by omega)]
        exact RR _ j (by omega) (by omega) (by omega) hj2
  · rw [r1 i (by omega), r1 j p3]; exact h1 i j p1 p2 (by omega)
  · rw [r2 i p1 (by omega), r2 j (by omega) p3]; exact h2 _ _ (by omega) (by omega) (by omega)
  · rw [r3 i p1 (by omega) hsm, r3 j (by omega) p3 hsm]; exact h1 _ _ (by omega) (by omega) (by omega)
  · rw [r4 i p1, r4 j (by omega)]; exact h2 i j (by omega) p2 p3
/-- Two parts, of which all of one is less than all of the other, sorted each by itself. -/
theorem join_srt {a c b : Nat} {d e : Nat → E} (hlr : ∀ i j, a ≤ i → i < c → c ≤ j → j < b → lx key pl (d i) (d j)) (f : Nat → E) (m1 : Mv a c d e) (m2 : Mv c b e f) (s1 : Srt key pl a c e) (s2 : Srt key pl c b f) : Srt key pl a b f := by
  intro i j hi hij hj
  by_cases q1 : j < c
  · rw [m2.out (by omega), m2.out (by omega)]
    exact s1 i j hi hij q1
  · by_cases q2 : i < c
    · rw [m2.out (by omega)]
      obtain ⟨y, hy, ey⟩ := m1.from (x := i) ⟨hi, q2⟩
      obtain ⟨z, hz, ez⟩ := m2.from (x := j) ⟨by omega, hj⟩
      rw [ey, ez, m1.out (by omega)]
      exact hlr y z hy.1 hy.2 hz.1 hz.2
    · exact s2 i j (by omega) hij hj
theorem Pl.mv {a m b a' b' : Nat} {d e : Nat → E} (h : Pl pl a m b d) (k : Mv a' b' d e) (hc : (a ≤ a' ∧ b' ≤ m) ∨ (m ≤ a' ∧ b' ≤ b)) : Pl pl a m b e := by
  intro i j hi hi2 hj hj2
  have A : ∀ x, ∃ y, (x = y ∨ (a' ≤ x ∧ x < b') ∧ a' ≤ y ∧ y < b') ∧ e x = d y := by
    intro x
    by_cases hx : a' ≤ x ∧ x < b'
    · obtain ⟨y, hy, ey⟩ := k.from hx
      exact ⟨y, .inr ⟨hx, hy⟩, ey⟩
    · exact ⟨x, .inl rfl, k.out hx⟩
  obtain ⟨x, hx, ex⟩ := A i
  obtain ⟨y, hy, ey⟩ := A j
  rw [ex, ey]
  exact h x y (by omega) (by omega) (by omega) (by omega)
theorem rot_pl {a m b s : Nat} {d : Nat → E} (h : Pl pl a m b d) (hs : a ≤ s) (hm : s ≤ m) (he : m ≤ (a + b) / 2 + m - s) (hb : (a + b) / 2 + m - s ≤ b) (ham : a < m) (hmb : m < b) :
    Pl pl a s ((a + b) / 2) (rot d s m ((a + b) / 2 + m - s)) ∧ Pl pl ((a + b) / 2) ((a + b) / 2 + m - s) b (rot d s m ((a + b) / 2 + m - s)) := by
  generalize hmid : (a + b) / 2 = mid at *
  have hmb2 : mid < b := by omega
  have ham2 : a ≤ mid := by omega
  generalize hE : mid + m - s = e at *
  refine ⟨fun i j p1 p2 p3 p4 => ?_, fun i j p1 p2 p3 p4 => ?_⟩
  · have r1 : rot d s m e i = d i := by unfold rot; rw [if_pos p2]
    have r2 : rot d s m e j = d (j + (m - s)) := by unfold rot; rw [if_neg (by omega), if_pos (by omega)]
    rw [r1, r2]
    exact h _ _ p1 (by omega) (by omega) (by omega)
  · have r1 : rot d s m e i = d (i - (e - m)) := by unfold rot; rw [if_neg (by omega), if_neg (by omega), if_pos (by omega)]
    have r2 : rot d s m e j = d j := by unfold rot; rw [if_neg (by omega), if_neg (by omega), if_neg (by omega)]
    rw [r1, r2]
    exact h _ _ (by omega) (by omega) (by omega) (by omega)

/-- Blocks of the size s: each multiple of s parts the given order. -/
def PB (pl : E → Int) (s n : Nat) (d : Nat → E) : Prop := ∀ c i j, i < c * s → c * s ≤ j → j < n → pl (d i) < pl (d j)
def PA (pl : E → Int) (s a n : Nat) (d : Nat → E) : Prop := ∀ c i j, a ≤ i → i < c * s → c * s ≤ j → j < n → pl (d i) < pl (d j)
theorem PB.mv {s n lo hi q : Nat} {d e : Nat → E} (h : PB pl s n d) (k : Mv lo hi d e) (hl : q * s ≤ lo) (hh : hi ≤ (q + 1) * s) (hn : hi ≤ n) : PB pl s n e := by
  intro c i j h1 h2 h3
  have A : ∀ x, ∃ y, (x = y ∨ (lo ≤ x ∧ x < hi) ∧ lo ≤ y ∧ y < hi) ∧ e x = d y := by
    intro x
    by_cases hx : lo ≤ x ∧ x < hi
    · obtain ⟨y, hy, ey⟩ := k.from hx
      exact ⟨y, .inr ⟨hx, hy⟩, ey⟩
    · exact ⟨x, .inl rfl, k.out hx⟩
  obtain ⟨x, hx, ex⟩ := A i
  obtain ⟨y, hy, ey⟩ := A j
  rw [ex, ey]
  have C : c * s ≤ q * s ∨ (q + 1) * s ≤ c * s := by
    by_cases hc : c ≤ q
    · exact .inl (Nat.mul_le_mul_right _ hc)
    · exact .inr (Nat.mul_le_mul_right _ (by omega))
  exact h c x y (by omega) (by omega) (by omega)
theorem PB.two {s n : Nat} {d : Nat → E} (h : PB pl s n d) : PB pl (2 * s) n d := by
  intro c i j h1 h2 h3
  rw [← Nat.mul_assoc] at h1 h2
  exact h (c * 2) i j h1 h2 h3
theorem PB.ofAsc {s n : Nat} {d : Nat → E} (h : Asc pl 0 n d) : PB pl s n d := fun c i j h1 h2 h3 => h i j (Nat.zero_le _) (by omega) h3
/-- Each block is sorted. -/
structure SB (key pl : E → Int) (s n : Nat) (d0 d : Nat → E) : Prop where
  srt : ∀ q, Srt key pl (q * s) (min n ((q + 1) * s)) d
  pb : PB pl s n d
  mv : Mv 0 n d0 d
/-- While the first q blocks are sorted. -/
structure IB (key pl : E → Int) (s n q : Nat) (d0 d : Nat → E) : Prop where
  srt : ∀ p, p < q → Srt key pl (p * s) ((p + 1) * s) d
  pb : PB pl s n d
  mv : Mv 0 (q * s) d0 d
theorem mulS (q s : Nat) : (q + 1) * s = q * s + s := by rw [Nat.add_mul, Nat.one_mul]
theorem IB.start {s n : Nat} {d : Nat → E} (h : Asc pl 0 n d) : IB key pl s n 0 d d := ⟨fun p hp => by omega, .ofAsc h, Mv.refl _ _ _⟩
theorem IB.asc {s n q : Nat} {d0 d : Nat → E} (h : IB key pl s n q d0 d) (ha : Asc pl 0 n d0) : Asc pl (q * s) n d := by
  intro i j h1 h2 h3
  rw [h.mv.out (by omega), h.mv.out (by omega)]
  exact ha i j (Nat.zero_le _) h2 h3
theorem IB.step {s n q : Nat} {d0 d e : Nat → E} (h : IB key pl s n q d0 d) (hn : (q + 1) * s ≤ n) (m : Mv (q * s) ((q + 1) * s) d e) (hs : Srt key pl (q * s) ((q + 1) * s) e) : IB key pl s n (q + 1) d0 e := by
  refine ⟨fun p hp => ?_, h.pb.mv m (Nat.le_refl _) (Nat.le_refl _) hn, (h.mv.mono (Nat.le_refl _) (Nat.mul_le_mul_right _ (by omega))).trans (m.mono (Nat.zero_le _) (Nat.le_refl _))⟩
  by_cases e0 : p = q
  · subst e0; exact hs
  · have : (p + 1) * s ≤ q * s := Nat.mul_le_mul_right _ (by omega)
    exact (h.srt p (by omega)).congr fun x _ hx => m.out (by omega)
theorem IB.fin {s n q : Nat} {d0 d e : Nat → E} (h : IB key pl s n q d0 d) (hq : q * s ≤ n) (hn : n < (q + 1) * s) (m : Mv (q * s) n d e) (hs : Srt key pl (q * s) n e) : SB key pl s n d0 e := by
  refine ⟨fun p => ?_, h.pb.mv m (Nat.le_refl _) (by omega) (Nat.le_refl _), (h.mv.mono (Nat.le_refl _) hq).trans (m.mono (Nat.zero_le _) (Nat.le_refl _))⟩
  by_cases e0 : p < q
  · have : (p + 1) * s ≤ q * s := Nat.mul_le_mul_right _ (by omega)
    exact ((h.srt p e0).congr fun x _ hx => m.out (by omega)).sub (Nat.le_refl _) (Nat.min_le_right _ _)
  · have : q * s ≤ p * s := Nat.mul_le_mul_right _ (by omega)
    exact hs.sub this (Nat.min_le_left _ _)
/-- While the first q blocks of twice the size are merged. -/
structure MB (key pl : E → Int) (s n q : Nat) (d0 d : Nat → E) : Prop where
  srt : ∀ p, p < q → Srt key pl (p * (2 * s)) ((p + 1) * (2 * s)) d
  old : ∀ p, q * 2 ≤ p → Srt key pl (p * s) (min n ((p + 1) * s)) d
  pb : PB pl (2 * s) n d
  pa : PA pl s (q * (2 * s)) n d
  mv : Mv 0 n d0 d
theorem MB.start {s n : Nat} {d0 d : Nat → E} (h : SB key pl s n d0 d) : MB key pl s n 0 d0 d := ⟨fun p hp => by omega, fun p _ => h.srt p, h.pb.two, fun c i j _ => h.pb c i j, h.mv⟩
theorem MB.parts {s n q b : Nat} {d0 d : Nat → E} (h : MB key pl s n q d0 d) (hb : b ≤ n) (hb2 : b ≤ (q + 1) * (2 * s)) :
    Srt key pl (q * (2 * s)) (min b (q * (2 * s) + s)) d ∧ Srt key pl (q * (2 * s) + s) b d ∧ Pl pl (q * (2 * s)) (q * (2 * s) + s) b d := by
  have o1 := h.old (q * 2) (Nat.le_refl _)
  have o2 := h.old (q * 2 + 1) (by omega)
  have e1 : q * 2 * s = q * (2 * s) := Nat.mul_assoc _ _ _
  have e2 : (q * 2 + 1) * s = q * (2 * s) + s := by rw [mulS, e1]
  have e3 : (q * 2 + 1 + 1) * s = (q + 1) * (2 * s) := by rw [show q * 2 + 1 + 1 = (q + 1) * 2 by omega, Nat.mul_assoc]
  rw [e1, e2] at o1
  rw [e2, e3] at o2
  refine ⟨o1.sub (Nat.le_refl _) (by omega), o2.sub (Nat.le_refl _) (by omega), fun i j h1 h2 h3 h4 => ?_⟩
  exact h.pa (q * 2 + 1) i j h1 (by omega) (by omega) (by omega)
theorem MB.step {s n q : Nat} {d0 d e : Nat → E} (h : MB key pl s n q d0 d) (hn : (q + 1) * (2 * s) ≤ n) (m : Mv (q * (2 * s)) ((q + 1) * (2 * s)) d e) (hs : Srt key pl (q * (2 * s)) ((q + 1) * (2 * s)) e) : MB key pl s n (q + 1) d0 e := by
  refine ⟨fun p hp => ?_, fun p hp => ?_, h.pb.mv m (Nat.le_refl _) (Nat.le_refl _) hn, fun c i j h1 h2 h3 h4 => ?_, h.mv.trans (m.mono (Nat.zero_le _) hn)⟩
  · by_cases e0 : p = q
    · subst e0; exact hs
    · have : (p + 1) * (2 * s) ≤ q * (2 * s) := Nat.mul_le_mul_right _ (by omega)
      exact (h.srt p (by omega)).congr fun x _ hx => m.out (by omega)
  · have : (q + 1) * 2 * s ≤ p * s := Nat.mul_le_mul_right _ hp
    rw [Nat.mul_assoc] at this
    exact (h.old p (by omega)).congr fun x hx _ => m.out (by omega)
  · rw [m.out (by omega), m.out (by omega)]
    have : q * (2 * s) ≤ (q + 1) * (2 * s) := Nat.mul_le_mul_right _ (by omega)
    exact h.pa c i j (by omega) h2 h3 h4
theorem MB.fin {s n q : Nat} {d0 d e : Nat → E} (h : MB key pl s n q d0 d) (hn : n < (q + 1) * (2 * s)) (m : Mv (q * (2 * s)) n d e) (hs : Srt key pl (q * (2 * s)) n e) : SB key pl (2 * s) n d0 e := by
  refine ⟨fun p => ?_, h.pb.mv m (Nat.le_refl _) (by omega) (Nat.le_refl _), h.mv.trans (m.mono (Nat.zero_le _) (Nat.le_refl _))⟩
  by_cases e0 : p < q
  · have : (p + 1) * (2 * s) ≤ q * (2 * s) := Nat.mul_le_mul_right _ (by omega)
    exact ((h.srt p e0).congr fun x _ hx => m.out (by omega)).sub (Nat.le_refl _) (Nat.min_le_right _ _)
  · have : q * (2 * s) ≤ p * (2 * s) := Nat.mul_le_mul_right _ (by omega)
    exact hs.sub this (Nat.min_le_left _ _)
theorem SB.fin {s n : Nat} {d0 d : Nat → E} (h : SB key pl s n d0 d) (hs : n ≤ s) : Srt key pl 0 n d := by
  have := h.srt 0
  rw [Nat.zero_mul] at this
  exact this.sub (Nat.le_refl _) (by omega)
end Stb
end Go.Proofs.Ytkamkjbllmgifaa
