/- Spots along a curve: sorted indices, counted and merged. Plain. -/
import Derived.Test.YtbkgmegpgnmlpaaIvP
namespace Go.Proofs.Ytbkgmegpgnmlpaa
open Go.RowKit

/-- The numbers below n, each as often as in a list. -/
def srtTo (L : List Int) (n : Nat) : List Int := (List.range n).flatMap fun i : Nat => List.replicate (L.count (i : Int)) (i : Int)
theorem srtTo_succ (L : List Int) (n : Nat) : srtTo L (n + 1) = srtTo L n ++ List.replicate (L.count (n : Int)) (n : Int) := by simp [srtTo, List.range_succ]
theorem srtTo_bd (L : List Int) (n : Nat) : ∀ x ∈ srtTo L n, 0 ≤ x ∧ x < n := by
  intro x hx
  rw [srtTo, List.mem_flatMap] at hx
  obtain ⟨i, hi, hx⟩ := hx
  rw [List.mem_range] at hi
  have := (List.mem_replicate.1 hx).2
  omega
theorem srtTo_count (L : List Int) (a : Int) : ∀ n : Nat, (srtTo L n).count a = if 0 ≤ a ∧ a < n then L.count a else 0 := by
  intro n
  induction n with
  | zero => rw [if_neg (by omega)]; rfl
  | succ n ih =>
    rw [srtTo_succ, List.count_append, ih, List.count_replicate]
    by_cases e : a = n
    · subst e
      rw [if_neg (by omega), if_pos (by simp), if_pos (by omega)]; omega
    · rw [if_neg (show ¬ (((n : Int) == a) = true) by simp; omega)]
      by_cases h : 0 ≤ a ∧ a < n
      · rw [if_pos h, if_pos (by omega)]
        omega
      · rw [if_neg h, if_neg (by omega)]
theorem srtTo_sorted (L : List Int) : ∀ n : Nat, (srtTo L n).Pairwise (· ≤ ·) := by
  intro n
  induction n with
  | zero => exact List.Pairwise.nil
  | succ n ih =>
    rw [srtTo_succ, List.pairwise_append]
    refine ⟨ih, ?_, fun a ha b hb => ?_⟩
    · rw [List.pairwise_replicate]; right; exact Int.le_refl _
    · have h1 := srtTo_bd L n a ha
      have h2 := (List.mem_replicate.1 hb).2
      omega
theorem srt_eq {L : List Int} {n : Nat} (h : ∀ x ∈ L, 0 ≤ x ∧ x < n) : srtTo L n = L.mergeSort fun x y => decide (x ≤ y) := by
  have hp : (srtTo L n).Perm L := by
    rw [List.perm_iff_count]
    intro a
    rw [srtTo_count]
    by_cases hb : 0 ≤ a ∧ a < n
    · rw [if_pos hb]
    · rw [if_neg hb, List.count_eq_zero_of_not_mem (fun hm => hb (h a hm))]
  have hp2 := hp.trans (List.mergeSort_perm L (fun x y => decide (x ≤ y))).symm
  have hs1 := List.pairwise_mergeSort (le := fun x y : Int => decide (x ≤ y)) (fun a b c h1 h2 => by simp at *; omega) (fun a b => by simp; omega) L
  refine List.Perm.eq_of_pairwise (le := fun x y : Int => decide (x ≤ y) = true) ?_ ((srtTo_sorted L n).imp (fun h => by simpa using h)) hs1 hp2
  intro a b _ _ h1 h2
  simp at h1 h2
  omega
theorem srtTo_len {L : List Int} {n : Nat} (h : ∀ x ∈ L, 0 ≤ x ∧ x < n) : (srtTo L n).length = L.length := by rw [srt_eq h, List.length_mergeSort]
theorem srtTo_le (L : List Int) : ∀ n : Nat, (srtTo L n).length ≤ L.length := by
  intro n
  have : ∀ n : Nat, (srtTo L n).length + (L.filter fun x => decide (¬ (0 ≤ x ∧ x < (n : Int)))).length = L.length := by
    intro n
    induction n with
    | zero => simp [srtTo]
    | succ n ih =>
      rw [srtTo_succ, List.length_append, List.length_replicate, ← ih]
      have : (L.filter fun x => decide (¬ (0 ≤ x ∧ x < (n : Int)))).length = L.count (n : Int) + (L.filter fun x => decide (¬ (0 ≤ x ∧ x < ((n + 1 : Nat) : Int)))).length := by
        clear ih
        induction L with
        | nil => rfl
        | cons a l ih =>
          rw [List.filter_cons, List.filter_cons, List.count_cons]
          by_cases e : a = n
          · subst e
            rw [if_pos (by simp), if_pos (by simp), if_neg (by simp; omega), List.length_cons, ih]
            omega
          · rw [if_neg (show ¬ ((a == (n : Int)) = true) by simpa using e)]
            by_cases hb : 0 ≤ a ∧ a < (n : Int)
            · rw [if_neg (by simp; omega), if_neg (by simp; omega), ih]; omega
            · rw [if_pos (by simp; omega), if_pos (by simp; omega), List.length_cons, List.length_cons, ih]; omega
      omega
  have := this n
  omega

/-- The indices of spots. -/
def ixL (c o : Int) (ps : List (Int × Int)) : List Int := ps.map fun p => idxI c o p.1 p.2
def onB (o : Int) (p : Int × Int) : Bool := inB p.1 0 (side o - 1) && inB p.2 0 (side o - 1)
/-- Spots that are right. -/
def sokB (c o : Int) (ps : List (Int × Int)) : Bool := curveOkB c o && (decide (ps.length ≤ 256) && ps.all (onB o))
/-- The sorted indices. -/
def sIx (c o : Int) (ps : List (Int × Int)) : List Int := srtTo (ixL c o ps) ((side o).toNat * (side o).toNat)
/-- The sorted spots. -/
def sSp (c o : Int) (ps : List (Int × Int)) : List (Int × Int) := (sIx c o ps).map fun n => gp (visTo c o (side o).toNat (side o).toNat) n.toNat
theorem onB_iff {o : Int} {p : Int × Int} : onB o p = true ↔ (0 ≤ p.1 ∧ p.1 ≤ side o - 1) ∧ 0 ≤ p.2 ∧ p.2 ≤ side o - 1 := by rw [onB, Bool.and_eq_true, inB_iff, inB_iff]
theorem sokB_iff {c o : Int} {ps : List (Int × Int)} : sokB c o ps = true ↔ curveOkB c o = true ∧ ps.length ≤ 256 ∧ ∀ p ∈ ps, onB o p = true := by
  simp [sokB, Bool.and_eq_true, List.all_eq_true]
section
variable {c o : Int} (hc0 : 0 ≤ c) (hc3 : c ≤ 3) (h0 : 0 ≤ o) (h4 : o ≤ 4) {s : Nat} (hs : side o = s)
include hc0 hc3 h0 h4 hs
omit hc0 hc3 in
theorem ixL_bd {ps : List (Int × Int)} (hp : ∀ p ∈ ps, onB o p = true) : ∀ x ∈ ixL c o ps, 0 ≤ x ∧ x < ((s * s : Nat) : Int) := by
  intro x hx
  rw [ixL, List.mem_map] at hx
  obtain ⟨p, hp1, rfl⟩ := hx
  have h := onB_iff.1 (hp p hp1)
  have := idxI_bd c o p.1 p.2 h0 h4 (by omega) (by omega) (by omega) (by omega)
  rw [hs, ← Int.natCast_mul] at this
  exact this
/-- A spot's index is the spot's place. -/
theorem gp_ix {p : Int × Int} (hp : onB o p = true) : gp (visTo c o s s) (idxI c o p.1 p.2).toNat = p := by
  have h := onB_iff.1 hp
  exact vis_seen c o hc0 hc3 h0 h4 s hs (x := p.1) (y := p.2) (by omega) (by omega) (by omega) (by omega)
theorem ix_gp {i : Nat} (hi : i < s * s) : idxI c o (gp (visTo c o s s) i).1 (gp (visTo c o s s) i).2 = i ∧ onB o (gp (visTo c o s s) i) = true := by
  have hi' : i < (visTo c o s s).length := by rw [visTo_length]; exact hi
  have va := vis_at c o hc0 hc3 h0 h4 s hs i hi'
  have eg : gp (visTo c o s s) i = (visTo c o s s)[i] := by rw [gp, List.getD_eq_getElem?_getD, List.getElem?_eq_getElem hi']; rfl
  rw [eg]
  refine ⟨va.2.2.2.2, onB_iff.2 ?_⟩
  have h1 := va.1
  have h2 := va.2.1
  have h3 := va.2.2.1
  have h5 := va.2.2.2.1
  omega
end
end Go.Proofs.Ytbkgmegpgnmlpaa
