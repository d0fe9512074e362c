/- A picture comes back from its runs: the plain part. -/
import Derived.Test.YtdbelajgndclfaaTripF
namespace Go.Proofs.Ytdbelajgndclfaa
open Go.RowKit

theorem odd2_par (k : Nat) : parB false k = odd2 k := by
  unfold parB odd2
  by_cases h : k % 2 = 1 <;> simp [h]
theorem exp_take {runs : List Int} {k : Nat} (hk : k < runs.length) : expR false (runs.take (k + 1)) = expR false (runs.take k) ++ List.replicate (runs.getD k 0).toNat (odd2 k) := by
  rw [List.take_succ_eq_append_getElem hk, expR_append, List.length_take, Nat.min_eq_left (by omega), odd2_par]
  simp [expR, List.getD_eq_getElem?_getD, hk]
theorem exp_len_le {runs : List Int} (k : Nat) : (expR false (runs.take k)).length ≤ (expR false runs).length := by
  have e : expR false runs = expR false (runs.take k ++ runs.drop k) := by rw [List.take_append_drop]
  rw [e, expR_append, List.length_append]
  omega
theorem frS_exp {vis : List (Int × Int)} {s : Nat} {runs : List Int} (hp : PosOk vis s (s * s)) (h0 : ∀ k, k < runs.length → 0 ≤ runs.getD k 0) (hlen : (expR false runs).length = s * s) :
    ∀ k, k ≤ runs.length → (∀ j, j < k → frIn vis s runs j = true) ∧ (frS vis s runs k).2 = (expR false (runs.take k)).length ∧ ∀ i, i < (frS vis s runs k).2 → (frS vis s runs k).1.getD (posV s (vis.getD i (0, 0))) false = (expR false (runs.take k)).getD i false := by
  intro k
  induction k with
  | zero => intro _; simp [frS, expR]
  | succ k ih =>
    intro hk
    obtain ⟨h1, h2, h3⟩ := ih (by omega)
    have e := exp_take (runs := runs) (k := k) (by omega)
    have hle := exp_len_le (runs := runs) (k + 1)
    rw [e, List.length_append, List.length_replicate, hlen] at hle
    have hr := h0 k (by omega)
    refine ⟨?_, ?_, ?_⟩
    · intro j hj
      rcases Nat.lt_succ_iff_lt_or_eq.1 hj with h | h
      · exact h1 j h
      · subst h
        rw [frIn, inB_iff, h2]
        omega
    · rw [frS, e]; simp [h2]
    · intro i hi
      rw [frS] at hi ⊢
      simp only at hi ⊢
      rw [fillN_get hp _ (frS_length _ _ _ _) _ _ _ (by omega) i (by omega), e]
      by_cases hlt : i < (frS vis s runs k).2
      · rw [if_neg (by omega), h3 i hlt, List.getD_eq_getElem?_getD, List.getD_eq_getElem?_getD, List.getElem?_append_left (by omega)]
      · rw [if_pos (by omega), List.getD_eq_getElem?_getD, List.getElem?_append_right (by omega), List.getElem?_replicate, if_pos (by omega)]
        rfl

def permAll (c o : Int) (s : Nat) : Bool := ((visTo c o s s).map (posV s)).isPerm (List.range (s * s))
theorem permAll_all : ∀ c : Fin 4, ∀ o : Fin 5, permAll (c.val : Int) (o.val : Int) (2 ^ o.val) = true := by decide +kernel
theorem vis_perm (c o : Int) (hc0 : 0 ≤ c) (hc3 : c ≤ 3) (h0 : 0 ≤ o) (h4 : o ≤ 4) (s : Nat) (hs : side o = s) :
    ((visTo c o s s).map (posV s)).Perm (List.range (s * s)) := by
  obtain ⟨c, rfl⟩ := Int.eq_ofNat_of_zero_le hc0
  obtain ⟨o, rfl⟩ := Int.eq_ofNat_of_zero_le h0
  have h := permAll_all ⟨c, by omega⟩ ⟨o, by omega⟩
  have e : (2 : Nat) ^ o = s := by
    have h1 : ((2 ^ o : Nat) : Int) = s := by rw [← hs]; simp [side]
    omega
  simp only [e] at h
  exact List.isPerm_iff.1 h
theorem vis_posOk (c o : Int) (hc0 : 0 ≤ c) (hc3 : c ≤ 3) (h0 : 0 ≤ o) (h4 : o ≤ 4) (s : Nat) (hs : side o = s) : PosOk (visTo c o s s) s (s * s) := by
  have P := vis_perm c o hc0 hc3 h0 h4 s hs
  have hl := visTo_length c o s s
  have hn : ((visTo c o s s).map (posV s)).Nodup := P.nodup_iff.2 List.nodup_range
  have hg : ∀ i, i < s * s → posV s ((visTo c o s s).getD i (0, 0)) = ((visTo c o s s).map (posV s)).getD i 0 := by
    intro i hi
    rw [List.getD_eq_getElem?_getD, List.getD_eq_getElem?_getD, List.getElem?_map, List.getElem?_eq_getElem (by omega)]
    rfl
  refine ⟨fun i hi => ?_, fun i j hi hj h => ?_⟩
  · rw [hg i hi, List.getD_eq_getElem?_getD, List.getElem?_eq_getElem (by simp [hl]; exact hi)]
    exact List.mem_range.1 (P.mem_iff.1 (List.getElem_mem _))
  · rw [hg i hi, hg j hj] at h
    have hi2 : i < ((visTo c o s s).map (posV s)).length := by simp [hl]; exact hi
    have hj2 : j < ((visTo c o s s).map (posV s)).length := by simp [hl]; exact hj
    rw [List.getD_eq_getElem?_getD, List.getD_eq_getElem?_getD, List.getElem?_eq_getElem hi2, List.getElem?_eq_getElem hj2, Option.getD_some, Option.getD_some] at h
    exact (List.getElem?_inj hi2 hn).1 (by rw [List.getElem?_eq_getElem hi2, List.getElem?_eq_getElem hj2, h])

section
variable (c o : Int) (hc0 : 0 ≤ c) (hc3 : c ≤ 3) (h0 : 0 ≤ o) (h4 : o ≤ 4) (s : Nat) (hs : side o = s)
include hc0 hc3 h0 h4 hs
theorem alB_pos (L : List Bool) : alB L s s (visTo c o s s) = ((visTo c o s s).map (posV s)).map (L.getD · false) := by
  rw [alB, List.map_map]
  apply List.map_congr_left
  intro p hp
  obtain ⟨i, hi, e⟩ := List.getElem_of_mem hp
  obtain ⟨a, b, d, f, _⟩ := vis_at c o hc0 hc3 h0 h4 s hs i hi
  rw [e] at a b d f
  simp [bit, a, b, d, f, posV]
theorem along_back (L : List Bool) (hL : L.length = s * s) :
    frOkV (visTo c o s s) s (colR (alB L s s (visTo c o s s))) = true ∧ (frS (visTo c o s s) s (colR (alB L s s (visTo c o s s))) (colR (alB L s s (visTo c o s s))).length).1 = L := by
  have hl := visTo_length c o s s
  have hal : (alB L s s (visTo c o s s)).length = s * s := by rw [alB_length, hl]
  have hx := colR_exp (alB L s s (visTo c o s s))
  have hb := colTo_bd (alB L s s (visTo c o s s)) _ (Nat.le_refl _)
  have hr0 : ∀ k, k < (colR (alB L s s (visTo c o s s))).length → 0 ≤ (colR (alB L s s (visTo c o s s))).getD k 0 := by
    intro k hk
    rw [List.getD_eq_getElem?_getD, List.getElem?_eq_getElem hk]
    exact (hb.2.2 k hk).1
  have P := vis_perm c o hc0 hc3 h0 h4 s hs
  have F := frS_exp (vis_posOk c o hc0 hc3 h0 h4 s hs) hr0 (by rw [hx, hal]) _ (Nat.le_refl _)
  rw [List.take_length, hx, hal] at F
  obtain ⟨f1, f2, f3⟩ := F
  have E : (frS (visTo c o s s) s (colR (alB L s s (visTo c o s s))) (colR (alB L s s (visTo c o s s))).length).1 = L := by
    apply List.ext_getElem
    · rw [frS_length, hL]
    · intro q h1 h2
      have hq : q ∈ (visTo c o s s).map (posV s) := P.mem_iff.2 (List.mem_range.2 (by omega))
      obtain ⟨i, hi, e⟩ := List.getElem_of_mem hq
      simp only [List.length_map, hl] at hi
      have h3 := f3 i (by omega)
      simp only [List.getElem_map] at e
      have hv : (alB L s s (visTo c o s s)).getD i false = L.getD q false := by
        rw [alB_pos c o hc0 hc3 h0 h4 s hs, List.getD_eq_getElem?_getD, List.getElem?_map, List.getElem?_map, List.getElem?_eq_getElem (by omega), Option.map_some, Option.map_some, e, Option.getD_some]
      rw [hv, List.getD_eq_getElem?_getD (l := visTo c o s s), List.getElem?_eq_getElem (by omega), Option.getD_some, e] at h3
      rw [List.getD_eq_getElem?_getD, List.getElem?_eq_getElem h1, List.getD_eq_getElem?_getD, List.getElem?_eq_getElem h2, Option.getD_some, Option.getD_some] at h3
      exact h3
  refine ⟨?_, E⟩
  rw [frOkV_end f1, E]
  simp
theorem count_along (L : List Bool) (hL : L.length = s * s) : (alB L s s (visTo c o s s)).count true = L.count true := by
  have P := (vis_perm c o hc0 hc3 h0 h4 s hs).map (L.getD · false)
  rw [alB_pos c o hc0 hc3 h0 h4 s hs, P.count_eq]
  congr 1
  apply List.ext_getElem
  · simp [hL]
  · intro q h1 h2
    simp [List.getD_eq_getElem?_getD, List.getElem?_eq_getElem h2]
end
/-- The sum of each second run. -/
def oddTo (runs : List Int) : Nat → Int
  | 0 => 0
  | k + 1 => oddTo runs k + if k % 2 = 1 then runs.getD k 0 else 0
theorem oddTo_exp {runs : List Int} (h0 : ∀ k, k < runs.length → 0 ≤ runs.getD k 0) : ∀ k, k ≤ runs.length → oddTo runs k = (expR false (runs.take k)).count true := by
  intro k
  induction k with
  | zero => intro _; simp [oddTo, expR]
  | succ k ih =>
    intro hk
    have := h0 k (by omega)
    rw [oddTo, ih (by omega), exp_take (by omega), List.count_append, List.count_replicate]
    by_cases h : k % 2 = 1
    · simp only [odd2, h, decide_true, if_true, beq_self_eq_true]; omega
    · simp [odd2, h]
theorem sumTo_take {runs : List Int} {k : Nat} (hk : k < runs.length) : (runs.take (k + 1)).sum = (runs.take k).sum + runs.getD k 0 := by
  rw [List.take_succ_eq_append_getElem hk, List.sum_append]
  simp [List.getD_eq_getElem?_getD, hk]
end Go.Proofs.Ytdbelajgndclfaa
