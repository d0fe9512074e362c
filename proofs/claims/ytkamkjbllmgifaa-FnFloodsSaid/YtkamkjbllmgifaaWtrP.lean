/- Grey pictures: sums, on both sides. How much water a grey picture holds: on both sides. Water: the plain part of its law. -/
import Derived.Test.YtkamkjbllmgifaaGIm
import Derived.Test.YtkamkjbllmgifaaPbt
import Derived.Test.YtkamkjbllmgifaaB10G
import Derived.Test.YtkamkjbllmgifaaEowS
namespace Go.Proofs.Ytkamkjbllmgifaa
open Go.RowKit

def rsum (r : List Int) (k : Nat) : Int := (r.take k).sum
def gsum (rows : List (List Int)) (k : Nat) : Int := ((rows.take k).map List.sum).sum
theorem rsum_succ {r : List Int} {k : Nat} (h : k < r.length) : rsum r (k + 1) = rsum r k + r[k] := by
  unfold rsum
  rw [List.take_add_one, List.getElem?_eq_getElem h, List.sum_append]
  simp
theorem rsum_all (r : List Int) : rsum r r.length = r.sum := by simp [rsum]
theorem gsum_succ {rows : List (List Int)} {k : Nat} (h : k < rows.length) : gsum rows (k + 1) = gsum rows k + rows[k].sum := by
  unfold gsum
  rw [List.take_add_one, List.getElem?_eq_getElem h, List.map_append, List.sum_append]
  simp
theorem rsum_bd {r : List Int} (hv : ∀ x (h : x < r.length), 0 ≤ r[x] ∧ r[x] ≤ 1000) : ∀ k, k ≤ r.length → 0 ≤ rsum r k ∧ rsum r k ≤ 1000 * k := by
  intro k
  induction k with
  | zero => intro _; simp [rsum]
  | succ k ih =>
    intro h
    have := ih (by omega)
    have := hv k (by omega)
    rw [rsum_succ (by omega)]
    omega
theorem gsum_bd {rows : List (List Int)} (hr : ∀ i (h : i < rows.length), rows[i].length ≤ 16) (hv : ∀ y (hy : y < rows.length) x (h : x < rows[y].length), 0 ≤ rows[y][x] ∧ rows[y][x] ≤ 1000) : ∀ k, k ≤ rows.length → 0 ≤ gsum rows k ∧ gsum rows k ≤ 16000 * k := by
  intro k
  induction k with
  | zero => intro _; simp [gsum]
  | succ k ih =>
    intro h
    have := ih (by omega)
    have h2 := rsum_bd (hv k (by omega)) rows[k].length (Nat.le_refl _)
    have h3 := hr k (by omega)
    rw [rsum_all] at h2
    rw [gsum_succ (by omega)]
    omega

end Go.Proofs.Ytkamkjbllmgifaa

namespace Go.Proofs.Ytkamkjbllmgifaa
open Go.RowKit

/-- The sum of the first k. -/
def sI (O : Nat → Int) : Nat → Int
  | 0 => 0
  | k + 1 => sI O k + O k
theorem sI_congr {O P : Nat → Int} : ∀ k, (∀ i, i < k → O i = P i) → sI O k = sI P k := by
  intro k
  induction k with
  | zero => intro _; rfl
  | succ k ih => intro h; rw [sI, sI, ih (fun i hi => h i (by omega)), h k (by omega)]
theorem sI_sub (O P : Nat → Int) : ∀ k, sI (fun i => O i - P i) k = sI O k - sI P k := by
  intro k
  induction k with
  | zero => rfl
  | succ k ih => rw [sI, sI, sI, ih]; omega
theorem sI_bd {O : Nat → Int} {n : Nat} (h : ∀ i, i < n → -100 ≤ O i ∧ O i ≤ 100) : ∀ k, k ≤ n → -100 * (k : Int) ≤ sI O k ∧ sI O k ≤ 100 * k := by
  intro k
  induction k with
  | zero => intro _; simp [sI]
  | succ k ih => intro hk; have := ih (by omega); have := h k (by omega); rw [sI]; omega
theorem rsum_sI {O : Nat → Int} {r : List Int} {W b : Nat} (hl : r.length = W) (hg : ∀ x (h : x < r.length), r[x] = O (b + x)) : ∀ j, j ≤ W → sI O (b + j) = sI O b + rsum r j := by
  intro j
  induction j with
  | zero => intro _; simp [rsum]
  | succ j ih => intro h; rw [rsum_succ (by omega), ← Nat.add_assoc, sI, ih (by omega), hg j (by omega)]; omega
theorem gsum_sI {O : Nat → Int} {rows : List (List Int)} {W : Nat} (hr : ∀ y (h : y < rows.length), rows[y].length = W) (hg : ∀ y (hy : y < rows.length) x (h : x < rows[y].length), rows[y][x] = O (y * W + x)) : ∀ k, k ≤ rows.length → gsum rows k = sI O (k * W) := by
  intro k
  induction k with
  | zero => intro _; simp [gsum, sI]
  | succ k ih =>
    intro h
    have := rsum_sI (b := k * W) (hr k (by omega)) (hg k (by omega)) W (Nat.le_refl _)
    rw [gsum_succ (by omega), ih (by omega), Nat.succ_mul, this, ← rsum_all, hr k (by omega)]
noncomputable def waterV (rows : List (List Int)) : Int := if greyOk rows then sI (spillF rows) (tabW rows * rows.length) - sI (gF rows (tabW rows)) (tabW rows * rows.length) else 0
theorem water_of {rows : List (List Int)} {W H n : Nat} (g : GreyN rows W H n) {O : Nat → Int} (h : IsPass W n (gF rows W) (fun i => edgeB W H i = true) O) : waterV rows = sI O n - sI (gF rows W) n := by
  rw [waterV, if_pos g.ok, g.w, g.h, ← g.n]
  congr 1
  apply sI_congr
  intro i hi
  rw [spillF, g.w, g.h, ← g.n]
  exact passL_get h hi
theorem GreyN.num {rows : List (List Int)} {W H n : Nat} (g : GreyN rows W H n) (i : Nat) (hi : i < n) : 0 ≤ gF rows W i ∧ gF rows W i ≤ 99 := gF_bd g.ok g.w i (by rw [g.h, ← g.n]; exact hi)

end Go.Proofs.Ytkamkjbllmgifaa

namespace Go.Proofs.Ytkamkjbllmgifaa
open Go.RowKit

open Classical in
/-- The first number below m with P, m if there is none. -/
noncomputable def firstP (P : Nat → Prop) : Nat → Nat
  | 0 => 0
  | m + 1 => if firstP P m < m then firstP P m else if P m then m else m + 1
theorem firstP_le (P : Nat → Prop) : ∀ m, firstP P m ≤ m := by
  intro m
  induction m with
  | zero => simp [firstP]
  | succ m ih => rw [firstP]; split; · omega
                 split <;> omega
theorem firstP_is (P : Nat → Prop) : ∀ m, firstP P m < m → P (firstP P m) := by
  intro m
  induction m with
  | zero => intro h; omega
  | succ m ih =>
    rw [firstP]
    split
    · rename_i h; exact fun _ => ih h
    · split
      · rename_i h; exact fun _ => h
      · intro h; omega
theorem firstP_least (P : Nat → Prop) : ∀ m k, P k → k < m → firstP P m ≤ k := by
  intro m
  induction m with
  | zero => intro k _ h; omega
  | succ m ih =>
    intro k hk hm
    rw [firstP]
    split
    · by_cases e : k < m
      · exact ih k hk e
      · omega
    · rename_i h
      have hnot : ∀ j, P j → m ≤ j := fun j hj => by
        by_cases e : j < m
        · have := ih j hj e; omega
        · omega
      have : k = m := by have := hnot k hk; omega
      subst this
      rw [if_pos hk]; exact Nat.le_refl _

section
variable {W n : Nat} {G : Nat → Int} {F : Nat → Prop}
/-- There are least heights. -/
theorem IsPass.ex (hG : ∀ i, i < n → 0 ≤ G i) : ∃ O, IsPass W n G F O := by
  refine ⟨fun i => ((firstP (fun k => Way W n G F ((k : Nat) : Int) i) 100 : Nat) : Int), fun i hi => ?_, fun i h w => ?_⟩
  · have a := firstP_le (fun k => Way W n G F ((k : Nat) : Int) i) 100
    have b := firstP_is (fun k => Way W n G F ((k : Nat) : Int) i) 100
    refine ⟨by omega, by omega, fun hl => b (by omega)⟩
  · have h0 := hG i w.lt
    have h1 := w.le
    by_cases e : h < 100
    · have e2 : ((h.toNat : Nat) : Int) = h := by omega
      have := firstP_least (fun k => Way W n G F ((k : Nat) : Int) i) 100 h.toNat (by show Way W n G F ((h.toNat : Nat) : Int) i; rw [e2]; exact w) (by omega)
      show ((firstP _ 100 : Nat) : Int) ≤ h
      omega
    · have a := firstP_le (fun k => Way W n G F ((k : Nat) : Int) i) 100
      show ((firstP _ 100 : Nat) : Int) ≤ h
      omega
variable {O : Nat → Int}
theorem IsPass.close (h : IsPass W n G F O) {q s : Nat} (ha : adj W n q s) (_hs : ∀ i, i < n → G i ≤ 99) : O s ≤ max (O q) (G s) := by
  have hq := h.sound q ha.1
  have hss := h.sound s ha.2.1
  by_cases e : O q < 100
  · exact h.least s _ (.step q s ((hq.2.2 e).mono (by omega)) ha (by omega))
  · omega
theorem IsPass.self (h : IsPass W n G F O) : IsPass W n O F O := by
  have hw : ∀ {k : Int} {i : Nat}, Way W n G F k i → Way W n O F k i := by
    intro k i w
    induction w with
    | start i hi hF hG => exact .start i hi hF (h.least i _ (.start i hi hF hG))
    | step q s wq ha hG ih => exact .step q s ih ha (h.least s _ (.step q s wq ha hG))
  refine IsPass.of_closed (fun i hi => ?_) (fun i _ _ => Int.le_refl _) (fun q s _ => by omega)
  obtain ⟨a, b, d⟩ := h.sound i hi
  exact ⟨a, b, fun hl => hw (d hl)⟩
theorem IsPass.ge (h : IsPass W n G F O) (hs : ∀ i, i < n → G i ≤ 99) (i : Nat) (hi : i < n) : G i ≤ O i := by
  obtain ⟨a, b, d⟩ := h.sound i hi
  by_cases e : O i < 100
  · exact (d e).le
  · have := hs i hi; omega
theorem IsPass.congrG {G' : Nat → Int} (h : IsPass W n G F O) (e : ∀ i, i < n → G i = G' i) : IsPass W n G' F O := by
  have tw : ∀ {A B : Nat → Int} {k : Int} {i : Nat}, (∀ i, i < n → A i = B i) → Way W n A F k i → Way W n B F k i := by
    intro A B k i hab w
    induction w with
    | start i hi hF hG => exact .start i hi hF (by rw [← hab i hi]; exact hG)
    | step q s _ ha hG ih => exact .step q s ih ha (by rw [← hab s ha.2.1]; exact hG)
  refine ⟨fun i hi => ?_, fun i k w => h.least i k (tw (fun i hi => (e i hi).symm) w)⟩
  obtain ⟨a, b, d⟩ := h.sound i hi
  exact ⟨a, b, fun hl => tw e (d hl)⟩
end

/-- Every place reaches the edge. -/
theorem edge_way {W H : Nat} {G : Nat → Int} (hG : ∀ i, i < W * H → G i ≤ 99) {x y : Nat} (hx : x < W) (hy : y < H) : Way W (W * H) G (fun i => edgeB W H i = true) 99 (y * W + x) := by
  induction x with
  | zero => exact .start _ (pl_lt hx hy) (by rw [edgeB_xy hx]; simp) (hG _ (pl_lt hx hy))
  | succ x ih =>
    refine .step _ _ (ih (by omega)) ?_ (hG _ (pl_lt hx hy))
    rw [adj_xy (by omega) hy hx hy]
    exact .inr ⟨rfl, .inl rfl⟩

/-- All that the law asks of the numbers. -/
structure Wtr (G O : Nat → Int) (W H : Nat) : Prop where
  lev : levR (gO G W H) = gO O W H
  bd : ∀ i, i < W * H → 0 ≤ O i ∧ O i ≤ 99
  ge : ∀ i, i < W * H → 0 ≤ O i - G i ∧ O i - G i ≤ 99
  edge : ∀ i, i < W * H → edgeB W H i = true → O i - G i = 0
  spill : ∀ x y, x < W → y < H → spillV (gO G W H) (x : Int) (y : Int) = O (y * W + x)
  isin : ∀ x y, x < W → y < H → inR (gO G W H) (x : Int) (y : Int) = true
  sum : waterV (gO G W H) = sI (fun i => O i - G i) (W * H)
  rest : waterV (gO O W H) = 0
  ok : greyOk (gO G W H) = true
  ok2 : greyOk (gO O W H) = true
  way : ∀ bs x y p h, x < W → y < H → ewTo (gF (gO G W H) W) W H bs ((x : Int), (y : Int)) bs.length = some (p, h) → inG W H p = true ∧ (edgeB W H (plc W p) = true → O (y * W + x) ≤ h)

theorem gF_gO (O : Nat → Int) {W H i : Nat} (h : i < W * H) (hW : 0 < W) : gF (gO O W H) W i = O i := by
  obtain ⟨e, hm⟩ := pl_eq i hW
  have hr := pl_row h
  rw [e, gF_at hm (by rw [gO_length]; exact hr) (by rw [gO_w]; exact hm), gO_get]
theorem stepP_adj {W H : Nat} {p : Int × Int} {k : Int} (h1 : inG W H p = true) (h2 : inG W H (stepP p k) = true) : adj W (W * H) (plc W (stepP p k)) (plc W p) := by
  obtain ⟨x, y⟩ := p
  obtain ⟨a, b, rfl, rfl, ha, hb, e1⟩ := inG_nat h1
  have h3 := inG_iff.1 h2
  rw [e1]
  unfold plc
  rw [adj_xy (by omega) (by omega) ha hb]
  unfold stepP at h3 ⊢
  split
  · simp_all
  · split
    · simp_all; omega
    · split
      · simp_all
      · simp_all; omega
theorem wtr_of (G : Nat → Int) {W H : Nat} (hW0 : 0 < W) (hW : W ≤ 16) (hH0 : 0 < H) (hH : H ≤ 16) (hG : ∀ i, i < W * H → 0 ≤ G i ∧ G i ≤ 99) : ∃ O, Wtr G O W H := by
  have g : GreyN (gO G W H) W H (W * H) := ⟨gO_ok hW0 hW hH0 hH hG, tabW_gO _ hH0, gO_length _ _ _, rfl⟩
  obtain ⟨O, hO'⟩ := IsPass.ex (W := W) (n := W * H) (G := G) (F := fun i => edgeB W H i = true) (fun i hi => (hG i hi).1)
  have hO : IsPass W (W * H) (gF (gO G W H) W) (fun i => edgeB W H i = true) O := hO'.congrG (fun i hi => (gF_gO G hi hW0).symm)
  have h99 : ∀ i, i < W * H → G i ≤ 99 := fun i hi => (hG i hi).2
  have bd : ∀ i, i < W * H → 0 ≤ O i ∧ O i ≤ 99 := fun i hi => by
    obtain ⟨e, hm⟩ := pl_eq i hW0
    have := hO'.least _ _ (edge_way h99 hm (pl_row hi))
    rw [← e] at this
    exact ⟨(hO'.sound i hi).1, this⟩
  have g2 : GreyN (gO O W H) W H (W * H) := ⟨gO_ok hW0 hW hH0 hH bd, tabW_gO _ hH0, gO_length _ _ _, rfl⟩
  have hO2 : IsPass W (W * H) (gF (gO O W H) W) (fun i => edgeB W H i = true) O := hO'.self.congrG (fun i hi => (gF_gO O hi hW0).symm)
  have isin : ∀ x y, x < W → y < H → inR (gO G W H) (x : Int) (y : Int) = true := fun x y hx hy => by
    rw [inR, g.ok, g.w, g.h, Bool.true_and, inG_iff]; simp; omega
  have plx : ∀ x y : Nat, plc W ((x : Int), (y : Int)) = y * W + x := fun x y => by simp [plc]
  refine ⟨O, lev_of g hO, bd, fun i hi => ?_, fun i hi he => ?_, fun x y hx hy => ?_, isin, ?_, ?_, g.ok, g2.ok, ?_⟩
  · have := hO'.ge h99 i hi
    have := bd i hi
    have := hG i hi
    omega
  · have := hO'.ge h99 i hi
    have := hO'.least i _ (.start i hi he (Int.le_refl _))
    omega
  · rw [spillV, if_pos (isin x y hx hy), spillF, pR, g.w, g.h, plx]
    exact passL_get hO (pl_lt hx hy)
  · rw [water_of g hO, sI_sub]
    congr 1
    exact sI_congr _ (fun i hi => gF_gO G hi hW0)
  · rw [water_of g2 hO2, sI_congr (O := gF (gO O W H) W) (P := O) _ (fun i hi => gF_gO O hi hW0)]
    omega
  · intro bs x y
    have key : ∀ k p h, k ≤ bs.length → x < W → y < H → ewTo (gF (gO G W H) W) W H bs ((x : Int), (y : Int)) k = some (p, h) → inG W H p = true ∧ O (y * W + x) ≤ max h (O (plc W p)) ∧ G (plc W p) ≤ h := by
      intro k
      induction k with
      | zero =>
        intro p h _ hx hy e
        simp only [ewTo, List.take_zero, List.foldl_nil, Option.some.injEq, Prod.mk.injEq] at e
        obtain ⟨rfl, rfl⟩ := e
        rw [plx, gF_gO G (pl_lt hx hy) hW0]
        refine ⟨by rw [inG_iff]; simp; omega, by omega, Int.le_refl _⟩
      | succ k ih =>
        intro p h hk hx hy e
        rw [ewTo_succ (by omega)] at e
        cases hp : ewTo (gF (gO G W H) W) W H bs ((x : Int), (y : Int)) k with
        | none => rw [hp] at e; cases e
        | some q =>
          obtain ⟨q, h0⟩ := q
          obtain ⟨i1, i2, i3⟩ := ih q h0 (by omega) hx hy hp
          rw [hp] at e
          simp only [ewS] at e
          split at e
          · cases e
          · split at e
            · rename_i hin
              simp only [Option.some.injEq, Prod.mk.injEq] at e
              obtain ⟨rfl, rfl⟩ := e
              have ha := stepP_adj i1 hin
              have hc := hO'.close ha h99
              rw [gF_gO G ha.1 hW0]
              refine ⟨hin, ?_, by omega⟩
              omega
            · cases e
    intro p h hx hy e
    obtain ⟨i1, i2, i3⟩ := key _ p h (Nat.le_refl _) hx hy e
    refine ⟨i1, fun he => ?_⟩
    have := hO'.least _ _ (.start _ (plc_lt i1) he (Int.le_refl _))
    omega
end Go.Proofs.Ytkamkjbllmgifaa
