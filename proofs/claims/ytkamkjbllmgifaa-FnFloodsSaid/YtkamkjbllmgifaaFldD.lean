/- Floods: the pixels that wait, in memory; one of them struck. -/
import Derived.Test.YtkamkjbllmgifaaFldP
import Derived.Test.YtkamkjbllmgifaaHeiW
import Derived.Deep.RegionLaw
import Derived.Lib.SliceRun
namespace Go.Proofs.Ytkamkjbllmgifaa
open Go.RowKit

/-- The cells of a pixel that waits. -/
def wvV (W : Nat) (p : Nat × Int) : List Value := [.int .i64 ((p.1 % W : Nat) : Int), .int .i64 ((p.1 / W : Nat) : Int), .int .i64 p.2]
def wvC (W : Nat) (L : List (Nat × Int)) : List Value := (L.map (wvV W)).flatten
theorem wvC_app (W : Nat) (L M : List (Nat × Int)) : wvC W (L ++ M) = wvC W L ++ wvC W M := by simp [wvC]
theorem wvC_cons (W : Nat) (p : Nat × Int) (L : List (Nat × Int)) : wvC W (p :: L) = wvV W p ++ wvC W L := by simp [wvC]
theorem wvC_len (W : Nat) (L : List (Nat × Int)) : (wvC W L).length = L.length * 3 := by
  induction L with
  | nil => rfl
  | cons p L ih => rw [wvC_cons, List.length_append, ih]; simp [wvV]; omega
theorem wvC_at (W : Nat) : ∀ (L : List (Nat × Int)) (k : Nat) (h : k < L.length) (j : Nat) (_ : j < 3), (wvC W L)[k * 3 + j]? = (wvV W L[k])[j]?
  | p :: L, 0, _, j, hj => by
    rw [wvC_cons, List.getElem?_append_left (by simp [wvV]; omega)]; simp
  | p :: L, k + 1, h, j, hj => by
    rw [wvC_cons, List.getElem?_append_right (by simp [wvV]; omega)]
    have e : (k + 1) * 3 + j - (wvV W p).length = k * 3 + j := by simp [wvV]; omega
    rw [e]
    exact wvC_at W L k (by simpa using h) j hj
theorem wvC_take (W : Nat) (L : List (Nat × Int)) (k : Nat) : (wvC W L).take (k * 3) = wvC W (L.take k) := by
  induction L generalizing k with
  | nil => simp [wvC]
  | cons p L ih =>
    cases k with
    | zero => simp [wvC]
    | succ k =>
      rw [wvC_cons, List.take_succ_cons, wvC_cons, show (k + 1) * 3 = (wvV W p).length + k * 3 by simp [wvV]; omega, List.take_length_add_append, ih]
theorem wvC_drop (W : Nat) (L : List (Nat × Int)) (k : Nat) : (wvC W L).drop (k * 3) = wvC W (L.drop k) := by
  induction L generalizing k with
  | nil => simp [wvC]
  | cons p L ih =>
    cases k with
    | zero => simp [wvC]
    | succ k =>
      rw [wvC_cons, List.drop_succ_cons, show (k + 1) * 3 = (wvV W p).length + k * 3 by simp [wvV]; omega, List.drop_length_add_append, ih]
theorem wvC_one (W : Nat) (L : List (Nat × Int)) : ∀ u ∈ wvC W L, u.oneCell' = true := fun u hu => by
  obtain ⟨v, hv, hu⟩ := List.mem_flatten.1 hu
  obtain ⟨p, _, rfl⟩ := List.mem_map.1 hv
  simp [wvV] at hu
  rcases hu with rfl | rfl | rfl <;> rfl

theorem own_setCells {base : Nat} {e : TypeId} {size g n cap : Nat} : ∀ (vs : List Value) (o : Nat) (w : World) (xs : List Value), o + vs.length ≤ xs.length → w.ownsRow base e size (.slice (some ⟨g, 0, none⟩) n cap) n xs →
    (w.setCells g o vs).ownsRow base e size (.slice (some ⟨g, 0, none⟩) n cap) n (xs.take o ++ vs ++ xs.drop (o + vs.length))
  | [], o, w, xs, _, h => by
    have e : xs.take o ++ [] ++ xs.drop (o + 0) = xs := by simp
    rw [World.setCells]
    show w.ownsRow base _ size _ n (xs.take o ++ [] ++ xs.drop (o + 0))
    rw [e]; exact h
  | v :: vs, o, w, xs, hl, h => by
    rw [World.setCells]
    have hl2 : o + (vs.length + 1) ≤ xs.length := by simpa using hl
    have := own_setCells vs (o + 1) (w.setCell ⟨g, o, none⟩ v) (xs.set o v) (by rw [List.length_set]; omega) (h.stored o v).1
    have e : (xs.set o v).take (o + 1) ++ vs ++ (xs.set o v).drop (o + 1 + vs.length) = xs.take o ++ v :: vs ++ xs.drop (o + (v :: vs).length) := by
      have h1 : (xs.set o v).take (o + 1) = xs.take o ++ [v] := by
        rw [List.take_add_one, List.take_set_of_le (Nat.le_refl _), List.getElem?_set_self (by omega)]; rfl
      rw [h1, List.drop_set_of_lt (by omega), List.length_cons, show o + 1 + vs.length = o + (vs.length + 1) by omega]
      simp
    rw [e] at this
    exact this
theorem own_shrink {w : World} {base : Nat} {e : TypeId} {size g n m cap : Nat} {xs : List Value} (h : w.ownsRow base e size (.slice (some ⟨g, 0, none⟩) n cap) n xs) (hm : m ≤ n) : w.ownsRow base e size (.slice (some ⟨g, 0, none⟩) m cap) m (xs.take (m * size)) := by
  have hms : m * size ≤ n * size := Nat.mul_le_mul_right _ hm
  refine ⟨by rw [List.length_take, h.1]; omega, ?_⟩
  rcases h.2 with ⟨h', _⟩ | ⟨g', cap', cur, h', hb, hg, hnc, hcm, hcs, htake⟩
  · simp at h'
  · simp only [Value.slice.injEq, Option.some.injEq, Addr.mk.injEq, and_true, true_and] at h'
    obtain ⟨rfl, rfl⟩ := h'
    exact .inr ⟨g, cap, cur, rfl, hb, hg, by omega, hcm, hcs, by rw [← htake, List.take_take, Nat.min_eq_left hms]⟩
theorem own_cap' {w : World} {base : Nat} {e : TypeId} {size g n cap : Nat} {xs : List Value} (h : w.ownsRow base e size (.slice (some ⟨g, 0, none⟩) n cap) n xs) : n ≤ cap := by
  rcases h.2 with ⟨h', _⟩ | ⟨g', cap', cur, h', hb, hg, hnc, _⟩
  · simp at h'
  · simp only [Value.slice.injEq, Option.some.injEq, Addr.mk.injEq, and_true, true_and] at h'
    obtain ⟨rfl, rfl⟩ := h'
    exact hnc
theorem chg_drew (S : Nat → Prop) (w : World) : Chg S w w.drew := let h := Chg.refl S w; ⟨h.os, h.tape, h.output, h.size, h.block⟩
theorem chg_setCells {g : Nat} : ∀ (vs : List Value) (o : Nat) (w : World), Chg (fun b => b = g) w (w.setCells g o vs)
  | [], _, w => Chg.refl _ w
  | v :: vs, o, w => ((Chg.refl (fun b => b = g) w).store (p := ⟨g, o, none⟩) rfl v).trans (chg_setCells vs (o + 1) _)
/-- The cells behind the strike. -/
theorem strike_cells (W : Nat) (L : List (Nat × Int)) (k : Nat) (hk : k < L.length) (z : List Value) :
    (((((wvC W L).take (k * 3) ++ wvC W (L.drop (k + 1)) ++ (wvC W L).drop (k * 3 + (wvC W (L.drop (k + 1))).length)).take ((L.length - 1) * 3) ++ z ++ ((wvC W L).take (k * 3) ++ wvC W (L.drop (k + 1)) ++ (wvC W L).drop (k * 3 + (wvC W (L.drop (k + 1))).length)).drop ((L.length - 1) * 3 + z.length))).take ((L.length - 1) * 3)) = wvC W (L.eraseIdx k) := by
  have e1 : ((wvC W L).take (k * 3) ++ wvC W (L.drop (k + 1))).length = (L.length - 1) * 3 := by
    rw [wvC_take, List.length_append, wvC_len, wvC_len, List.length_take, List.length_drop]
    omega
  have e2 : ∀ r, (((wvC W L).take (k * 3) ++ wvC W (L.drop (k + 1))) ++ r).take ((L.length - 1) * 3) = (wvC W L).take (k * 3) ++ wvC W (L.drop (k + 1)) := fun r => by
    rw [← e1]; exact List.take_left
  rw [e2, List.append_assoc, e2, wvC_take, ← wvC_app, List.eraseIdx_eq_take_drop_succ]

theorem waveT : ElemT 78 80 (.agg #[.int .i64 0, .int .i64 0, .int .i64 0]) 3 24 := ⟨Try.underlying78, by kernel_rfl, rfl, by decide, by decide⟩
theorem wave_zero (w : World) : (zeroValue 80).run Try.prog w = .ok (.agg #[.int .i64 0, .int .i64 0, .int .i64 0]) w := by kernel_rfl
set_option maxHeartbeats 2000000 in
set_option maxRecDepth 100000 in
theorem strike_any (base g cap m k W : Nat) (L : List (Nat × Int)) (w : World) (h : w.ownsRow base 80 3 (.slice (some ⟨g, 0, none⟩) m cap) m (wvC W L)) (hm : L.length = m) (hk : k < m) (hm2 : m ≤ 1000000) :
    Calls Try.prog 51 #[.slice (some ⟨g, 0, none⟩) m cap, .int .i64 k, .int .i64 ((k : Int) + 1)] w fun e w' => e = .returned (.slice (some ⟨g, 0, none⟩) (m - 1) cap) ∧ w'.ownsRow base 80 3 (.slice (some ⟨g, 0, none⟩) (m - 1) cap) (m - 1) (wvC W (L.eraseIdx k)) ∧ Chg (fun b => b = g) w w' := by
  subst hm
  obtain ⟨i0, hi0, hz0, hz1, hz2⟩ := info_parts waveT.info
  obtain ⟨news, hnews⟩ : ∃ news, news = wvC W (L.drop (k + 1)) := ⟨_, rfl⟩
  have hlen : news.length = (L.length - (k + 1)) * 3 := by rw [hnews, wvC_len, List.length_drop]
  have hcap : L.length ≤ cap := own_cap' h
  obtain ⟨A, hA, hsrc⟩ : ∃ A : Addr, (if cap = k + 1 then some (⟨g, 0, none⟩ : Addr) else some ⟨g, (k + 1) * 3, none⟩) = some A ∧ Hid (∀ t u, news[t]? = some u → w.drew.cell? (A.add t) = some u) := by
    by_cases hc : cap = k + 1
    · refine ⟨⟨g, 0, none⟩, by simp [hc], fun t u hu => ?_⟩
      have h0 : news.length = 0 := by rw [hlen]; omega
      rw [List.length_eq_zero_iff.1 h0] at hu
      simp at hu
    · refine ⟨⟨g, (k + 1) * 3, none⟩, by simp [hc], fun t u hu => ?_⟩
      have ht : t < (L.length - (k + 1)) * 3 := by
        have := (List.getElem?_eq_some_iff.1 hu).1
        rwa [hlen] at this
      rw [Addr.add_lit]
      refine (h.cellAt ((k + 1) * 3 + t) (by omega)).trans ?_
      rw [← hu, hnews, ← wvC_drop, List.getElem?_drop]
  have s1 : Hid (news.length = (L.length - (k + 1)) * 3) := hlen
  have s2 : Hid (∀ u ∈ news, u.oneCell' = true) := by rw [hnews]; exact wvC_one W _
  have s3 : Hid (∀ t, t < news.length → (w.drew.cell? ⟨g, 0 + k * 3 + t, none⟩).isSome = true ∧ w.drew.frozen? ⟨g, 0 + k * 3 + t, none⟩ = false) := by
    intro t ht
    rw [hlen] at ht
    refine ⟨?_, h.frozenAt _⟩
    show (w.cell? ⟨g, 0 + k * 3 + t, none⟩).isSome = true
    rw [h.cellAt (0 + k * 3 + t) (by omega), List.getElem?_eq_getElem (by rw [wvC_len]; omega)]
    rfl
  obtain ⟨W1, hW1⟩ : ∃ W1, W1 = w.drew.setCells g (0 + k * 3) news := ⟨_, rfl⟩
  have hO1 : W1.ownsRow base 80 3 (.slice (some ⟨g, 0, none⟩) L.length cap) L.length ((wvC W L).take (k * 3) ++ wvC W (L.drop (k + 1)) ++ (wvC W L).drop (k * 3 + (wvC W (L.drop (k + 1))).length)) := by
    rw [hW1, hnews, Nat.zero_add]
    exact own_setCells _ _ _ _ (by rw [wvC_len, wvC_len, List.length_drop]; omega) h
  have hC1 : Chg (fun b => b = g) w W1 := by rw [hW1]; exact (chg_drew _ w).trans (chg_setCells news _ _)
  have hst := run_storeCells_cells (P := Try.prog) g ((L.length - 1) * 3) [.int .i64 0, .int .i64 0, .int .i64 0] 0 W1 (fun j hj => by
    rw [hO1.cellAt _ (by simp at hj; omega), List.getElem?_eq_getElem (by rw [hO1.1]; simp at hj; omega)]; rfl) (fun j _ => hO1.frozenAt _) (by simp [Value.oneCell'])
  have hcl : ∀ ty, (Builtin.clear_ #[78] ty #[.slice (some ⟨g, (L.length - 1) * 3, none⟩) 1 (cap - (L.length - 1))]).run Try.prog W1 = .ok (.tuple #[]) (W1.setCells g ((L.length - 1) * 3) [.int .i64 0, .int .i64 0, .int .i64 0]) := by
    intro ty
    have hzc : (Builtin.zeroCells #[Value.int .i64 0, .int .i64 0, .int .i64 0] 1).toList = [.int .i64 0, .int .i64 0, .int .i64 0] := by kernel_rfl
    simp [Builtin.clear_, run_underlying Try.underlying78, Value.cells, hzc] at hst ⊢
    rw [hst]; rfl
  have hF : W1.setCells g ((L.length - 1) * 3) [.int .i64 0, .int .i64 0, .int .i64 0] = W1.setCells g ((L.length - 1) * 3) [.int .i64 0, .int .i64 0, .int .i64 0] := rfl
  have FO : Hid ((W1.setCells g ((L.length - 1) * 3) [.int .i64 0, .int .i64 0, .int .i64 0]).ownsRow base 80 3 (.slice (some ⟨g, 0, none⟩) (L.length - 1) cap) (L.length - 1) (wvC W (L.eraseIdx k))) := by
    have h1 := own_setCells [.int .i64 0, .int .i64 0, .int .i64 0] ((L.length - 1) * 3) W1 _ (by rw [hO1.1]; simp; omega) hO1
    have h2 := own_shrink h1 (show L.length - 1 ≤ L.length by omega)
    rw [strike_cells W L k hk] at h2
    exact h2
  have FC : Hid (Chg (fun b => b = g) w (W1.setCells g ((L.length - 1) * 3) [.int .i64 0, .int .i64 0, .int .i64 0])) := hC1.trans (chg_setCells _ _ _)
  have hW : Hid (W1 = w.drew.setCells g (0 + k * 3) news) := hW1
  have hic : k ≤ cap := by omega
  have hjc : k + 1 ≤ cap := by omega
  have hkl : k + 1 ≤ L.length := by omega
  have e1 : k + (L.length - (k + 1)) = L.length - 1 := by omega
  have e2 : L.length - (L.length - 1) = 1 := by omega
  have q0 : ((k : Int) == (k : Int) + 1) = false := by rw [beq_eq_false_iff_ne]; omega
  have q1 : (k : Int) + 1 = ((k + 1 : Nat) : Int) := by omega
  rw [q1]
  have q0 : ((k : Int) == ((k + 1 : Nat) : Int)) = false := by rw [beq_eq_false_iff_ne]; omega
  clear hW1 hO1 hC1 hst hF h hlen hnews q1
  generalize L.length = m at *
  generalize hj : k + 1 = j at *
  have HJ := Lib.hid hj
  clear hj
  go_enter Try.func51, Try.ntmps51
  go_wp2_with fail
  go_region_law (refine step_append_room rfl (.tmp 22) (.tmp 25) 78 rfl 80 i0 3 Try.underlying78 hi0 hz1 g 0 k cap (by simp [Act.eval, Act.put]) A (m - j) (cap - j) news (by simp [Act.eval, Act.put]) s1.out hsrc.out s2.out (by omega) s3.out ?_; rw [← hW.out, e1])
  go_wp2_with fail
  go_ret
  exact ⟨rfl, FO.out, FC.out⟩
end Go.Proofs.Ytkamkjbllmgifaa
