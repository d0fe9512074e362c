/- Thinned pictures: pixels that can go are taken away, until none is left that can. Plain. -/
import Derived.Test.YtdhajndmebnknaaGreatTopG
import Derived.Test.YtdhajndmebnknaaGreatEnd
namespace Go.Proofs.YtdhajndmebnknaaGreat
open Go.RowKit

noncomputable def sideD (L : List Bool) (W H : Nat) (b e : Bool) (z : Int × Int) : Bool := @decide (sideP L W H b e z) (Classical.propDecidable _)
noncomputable def simpleD (L : List Bool) (W H : Nat) (e : Bool) (z : Int × Int) : Bool := sideD L W H true e z && sideD L W H false (!e) z
theorem simpleD_iff {L : List Bool} {W H : Nat} {e : Bool} {z : Int × Int} : simpleD L W H e z = true ↔ simpleP L W H e z := by
  rw [simpleD, Bool.and_eq_true, sideD, sideD, dec_iff, dec_iff]; rfl
/-- Whether a pixel is taken away. -/
noncomputable def goes (e : Bool) (least : Int) (W H : Nat) (L : List Bool) (z : Int × Int) : Bool := bit L W H z.1 z.2 && (decide (least ≤ ((coN L W H z : Nat) : Int)) && simpleD L W H e z)
noncomputable def remS (e : Bool) (least : Int) (W H : Nat) (L : List Bool) (i : Nat) : List Bool := if goes e least W H L (((i % W : Nat) : Int), ((i / W : Nat) : Int)) then L.set i false else L
noncomputable def roundTo (e : Bool) (least : Int) (W H : Nat) (L : List Bool) (k : Nat) : List Bool := (List.range k).foldl (remS e least W H) L
noncomputable def roundL (e : Bool) (least : Int) (W H : Nat) (L : List Bool) : List Bool := roundTo e least W H L (W * H)
/-- So many rounds. -/
noncomputable def rounds (e : Bool) (least : Int) (W H : Nat) (L : List Bool) : Nat → List Bool
  | 0 => L
  | n + 1 => roundL e least W H (rounds e least W H L n)
noncomputable def thinL (e : Bool) (least : Int) (W H : Nat) (L : List Bool) : List Bool := rounds e least W H L (W * H + 1)
section
variable {e : Bool} {least : Int} {W H : Nat} {L M : List Bool}
theorem roundTo_succ (k : Nat) : roundTo e least W H L (k + 1) = remS e least W H (roundTo e least W H L k) k := by
  simp [roundTo, List.range_succ, List.foldl_append]
/-- Pixels have been taken away, each when it could go. -/
inductive Gone (e : Bool) (W H : Nat) (L : List Bool) : List Bool → Prop
  | refl : Gone e W H L L
  | step (M : List Bool) (i j : Nat) : Gone e W H L M → i < W → j < H → bit M W H i j = true → simpleP M W H e ((i : Int), (j : Int)) → Gone e W H L (M.set (j * W + i) false)
theorem Gone.len (h : Gone e W H L M) : M.length = L.length := by
  induction h with
  | refl => rfl
  | step M i j _ _ _ _ _ ih => rw [List.length_set, ih]
theorem Gone.trans {N : List Bool} (h : Gone e W H L M) (k : Gone e W H M N) : Gone e W H L N := by
  induction k with
  | refl => exact h
  | step M i j _ h1 h2 h3 h4 ih => exact .step M i j ih h1 h2 h3 h4
theorem Gone.comp (h : Gone e W H L M) (hL : L.length = W * H) (hW : W ≤ 18) (hH : H ≤ 18) : compN e M W H = compN e L W H ∧ holeN e M W H = holeN e L W H := by
  induction h with
  | refl => exact ⟨rfl, rfl⟩
  | step M i j hg h1 h2 h3 h4 ih =>
    have hM : M.length = W * H := by rw [hg.len, hL]
    exact ⟨(comp_drop hM h1 h2 (by omega) (by omega) h3 h4.1).trans ih.1, (hole_drop hM h1 h2 hW hH h3 h4.2).trans ih.2⟩
theorem Gone.tree (h : Gone true W H L M) (hL : L.length = W * H) : treeV L W H = treeV M W H := by
  induction h with
  | refl => rfl
  | step M i j hg h1 h2 h3 h4 ih => exact ih.trans (tree_drop (by rw [hg.len, hL]) h1 h2 h3 h4)
theorem Gone.sub (h : Gone e W H L M) : ∀ i, M.getD i false = true → L.getD i false = true := by
  induction h with
  | refl => exact fun _ h => h
  | step M i j _ _ _ _ _ ih =>
    intro k hk
    refine ih k ?_
    rw [List.getD_eq_getElem?_getD, List.getElem?_set] at hk
    rw [List.getD_eq_getElem?_getD]
    split at hk
    · split at hk <;> simp at hk
    · exact hk
theorem remS_gone (hL : L.length = W * H) {i : Nat} (hi : i < W * H) : Gone e W H L (remS e least W H L i) := by
  unfold remS
  split
  · next h =>
    unfold goes at h
    rw [Bool.and_eq_true, Bool.and_eq_true] at h
    have hW : 0 < W := by rcases Nat.eq_zero_or_pos W with h0 | h0; (subst h0; simp at hi); exact h0
    have e1 : i / W * W + i % W = i := by rw [Nat.mul_comm]; exact Nat.div_add_mod i W
    have := Gone.step (e := e) (L := L) L (i % W) (i / W) .refl (Nat.mod_lt _ hW) (Nat.div_lt_of_lt_mul hi) h.1 (simpleD_iff.1 h.2.2)
    rw [e1] at this
    exact this
  · exact .refl
theorem roundTo_gone (hL : L.length = W * H) : ∀ k, k ≤ W * H → Gone e W H L (roundTo e least W H L k) := by
  intro k
  induction k with
  | zero => intro _; exact .refl
  | succ k ih =>
    intro hk
    have h := ih (by omega)
    rw [roundTo_succ]
    exact h.trans (remS_gone (by rw [h.len, hL]) (by omega))
theorem rounds_gone (hL : L.length = W * H) : ∀ n, Gone e W H L (rounds e least W H L n) := by
  intro n
  induction n with
  | zero => exact .refl
  | succ n ih => exact ih.trans (roundTo_gone (by rw [ih.len, hL]) _ (Nat.le_refl _))
/-- How many pixels are black. -/
def blacks (L : List Bool) : Nat := L.countP fun b => b
theorem blacks_set : ∀ (L : List Bool) (i : Nat), L.getD i false = true → blacks (L.set i false) + 1 = blacks L
  | [], i, h => by simp at h
  | b :: L, 0, h => by
    have hb : b = true := by simpa using h
    subst hb
    simp [blacks]
  | b :: L, i + 1, h => by
    have := blacks_set L i (by simpa using h)
    unfold blacks at *
    rw [List.set_cons_succ, List.countP_cons, List.countP_cons]
    omega
theorem remS_cnt (hL : L.length = W * H) {i : Nat} (hi : i < W * H) : remS e least W H L i = L ∨ blacks (remS e least W H L i) + 1 = blacks L := by
  unfold remS
  split
  · next h =>
    unfold goes at h
    rw [Bool.and_eq_true] at h
    have hW : 0 < W := by rcases Nat.eq_zero_or_pos W with h0 | h0; (subst h0; simp at hi); exact h0
    have e1 : i / W * W + i % W = i := by rw [Nat.mul_comm]; exact Nat.div_add_mod i W
    have hb := h.1
    rw [bit_in (Nat.mod_lt _ hW) (Nat.div_lt_of_lt_mul hi), e1] at hb
    exact .inr (blacks_set L i hb)
  · exact .inl rfl
theorem roundTo_cnt (hL : L.length = W * H) : ∀ k, k ≤ W * H → (roundTo e least W H L k = L ∨ blacks (roundTo e least W H L k) + 1 ≤ blacks L) := by
  intro k
  induction k with
  | zero => intro _; exact .inl rfl
  | succ k ih =>
    intro hk
    have hg := roundTo_gone (e := e) (least := least) hL k (by omega)
    rw [roundTo_succ]
    rcases remS_cnt (e := e) (least := least) (L := roundTo e least W H L k) (by rw [hg.len, hL]) (i := k) (by omega) with h | h
    · rw [h]; exact ih (by omega)
    · rcases ih (by omega) with h2 | h2
      · exact .inr (by rw [h2] at h ⊢; omega)
      · exact .inr (by omega)
theorem rounds_fix {n : Nat} (h : roundL e least W H (rounds e least W H L n) = rounds e least W H L n) : ∀ m, n ≤ m → rounds e least W H L m = rounds e least W H L n := by
  intro m hm
  induction m with
  | zero => rw [show n = 0 by omega]
  | succ m ih =>
    by_cases e1 : n = m + 1
    · rw [e1]
    · rw [rounds, ih (by omega), h]
/-- A round changes nothing, or there are fewer black pixels. -/
theorem rounds_cnt (hL : L.length = W * H) (n : Nat) : roundL e least W H (rounds e least W H L n) = rounds e least W H L n ∨ blacks (rounds e least W H L (n + 1)) + 1 ≤ blacks (rounds e least W H L n) :=
  roundTo_cnt (by rw [(rounds_gone hL n).len, hL]) _ (Nat.le_refl _)
theorem rounds_end (hL : L.length = W * H) : ∃ n, n ≤ W * H ∧ roundL e least W H (rounds e least W H L n) = rounds e least W H L n := by
  have key : ∀ n, (∃ m, m < n ∧ roundL e least W H (rounds e least W H L m) = rounds e least W H L m) ∨ blacks (rounds e least W H L n) + n ≤ blacks L := by
    intro n
    induction n with
    | zero => exact .inr (by simp [rounds])
    | succ n ih =>
      rcases ih with ⟨m, hm, h⟩ | h
      · exact .inl ⟨m, by omega, h⟩
      · rcases rounds_cnt (e := e) (least := least) hL n with h2 | h2
        · exact .inl ⟨n, by omega, h2⟩
        · exact .inr (by omega)
  rcases key (W * H + 1) with ⟨m, hm, h⟩ | h
  · exact ⟨m, by omega, h⟩
  · have : blacks L ≤ W * H := by unfold blacks; rw [← hL]; exact List.countP_le_length
    omega
theorem thin_fix (hL : L.length = W * H) : roundL e least W H (thinL e least W H L) = thinL e least W H L := by
  obtain ⟨n, hn, h⟩ := rounds_end (e := e) (least := least) hL
  unfold thinL
  rw [rounds_fix h (W * H + 1) (by omega), h]
theorem thin_of {n : Nat} (hn : n ≤ W * H + 1) (h : roundL e least W H (rounds e least W H L n) = rounds e least W H L n) : thinL e least W H L = rounds e least W H L n := rounds_fix h _ hn
theorem thin_thin (hL : L.length = W * H) : thinL e least W H (thinL e least W H L) = thinL e least W H L :=
  thin_of (n := 0) (by omega) (thin_fix hL)
theorem thin_gone (hL : L.length = W * H) : Gone e W H L (thinL e least W H L) := rounds_gone hL _
end
end Go.Proofs.YtdhajndmebnknaaGreat
