/- The indices of a box on a curve, and their parts. Plain. -/
import Derived.Test.YtbkgmegpgnmlpaaVisP
import Derived.Test.YtbkgmegpgnmlpaaCvE
import Derived.Test.YtbkgmegpgnmlpaaJumps
namespace Go.Proofs.Ytbkgmegpgnmlpaa
open Go.RowKit

def inBx (f t p : Int × Int) : Bool := inB p.1 f.1 t.1 && inB p.2 f.2 t.2
theorem inBx_iff {f t p : Int × Int} : inBx f t p = true ↔ (f.1 ≤ p.1 ∧ p.1 ≤ t.1) ∧ f.2 ≤ p.2 ∧ p.2 ≤ t.2 := by
  rw [inBx, Bool.and_eq_true, inB_iff, inB_iff]
/-- A box in a square. -/
def boxB (o : Int) (f t : Int × Int) : Bool := inB o 0 4 && (inB f.1 0 (side o - 1) && (inB f.2 0 (side o - 1) && (inB t.1 f.1 (side o - 1) && inB t.2 f.2 (side o - 1))))
theorem boxB_iff {o : Int} {f t : Int × Int} : boxB o f t = true ↔ (0 ≤ o ∧ o ≤ 4) ∧ (0 ≤ f.1 ∧ f.1 ≤ side o - 1) ∧ (0 ≤ f.2 ∧ f.2 ≤ side o - 1) ∧ (f.1 ≤ t.1 ∧ t.1 ≤ side o - 1) ∧ f.2 ≤ t.2 ∧ t.2 ≤ side o - 1 := by
  simp only [boxB, Bool.and_eq_true, inB_iff]
/-- The indices of the first n spots that are in a box. -/
def ivN (V : List (Int × Int)) (f t : Int × Int) (n : Nat) : List Int := ((List.range n).filter fun i => inBx f t (gp V i)).map fun i : Nat => (i : Int)
theorem ivN_succ (V : List (Int × Int)) (f t : Int × Int) (n : Nat) : ivN V f t (n + 1) = ivN V f t n ++ if inBx f t (gp V n) then [(n : Int)] else [] := by
  rw [ivN, List.range_succ, List.filter_append, List.map_append]
  congr 1
  rw [List.filter_cons, List.filter_nil]
  cases inBx f t (gp V n) <;> rfl
theorem ivN_mem {V : List (Int × Int)} {f t : Int × Int} {n : Nat} {a : Int} : a ∈ ivN V f t n ↔ ∃ i : Nat, a = i ∧ i < n ∧ inBx f t (gp V i) = true := by
  rw [ivN, List.mem_map]
  constructor
  · rintro ⟨i, hi, rfl⟩
    rw [List.mem_filter, List.mem_range] at hi
    exact ⟨i, rfl, hi⟩
  · rintro ⟨i, rfl, hi⟩
    exact ⟨i, by rw [List.mem_filter, List.mem_range]; exact hi, rfl⟩
theorem ivN_sorted (V : List (Int × Int)) (f t : Int × Int) (n : Nat) : (ivN V f t n).Pairwise (· < ·) := by
  rw [ivN, List.pairwise_map]
  exact (List.Pairwise.filter _ List.pairwise_lt_range).imp (fun h => by omega)
theorem ivN_nodup (V : List (Int × Int)) (f t : Int × Int) (n : Nat) : (ivN V f t n).Nodup := (ivN_sorted V f t n).imp (fun h e => by omega)
theorem ivN_len (V : List (Int × Int)) (f t : Int × Int) (n : Nat) : (ivN V f t n).length ≤ n := by
  rw [ivN, List.length_map]; exact Nat.le_trans (List.length_filter_le _ _) (by simp)
/-- The indices of the first k spots of a box, row by row. -/
def bxTo (c o : Int) (f : Int × Int) (W k : Nat) : List Int := (List.range k).map fun q : Nat => idxI c o (f.1 + ((q % W : Nat) : Int)) (f.2 + ((q / W : Nat) : Int))
theorem bxTo_succ (c o : Int) (f : Int × Int) (W k : Nat) : bxTo c o f W (k + 1) = bxTo c o f W k ++ [idxI c o (f.1 + ((k % W : Nat) : Int)) (f.2 + ((k / W : Nat) : Int))] := by simp [bxTo, List.range_succ]
theorem bxTo_len (c o : Int) (f : Int × Int) (W k : Nat) : (bxTo c o f W k).length = k := by simp [bxTo]

/-- Each spot of the square has its place among the spots of the curve. -/
def seenV (c o : Int) (s : Nat) : Bool := (List.range (s * s)).all fun q => decide (gp (visTo c o s s) (idxI c o ((q % s : Nat) : Int) ((q / s : Nat) : Int)).toNat = (((q % s : Nat) : Int), ((q / s : Nat) : Int)))
theorem seenV_all : ∀ c : Fin 4, ∀ o : Fin 5, seenV (c.val : Int) (o.val : Int) (2 ^ o.val) = true := by decide +kernel
theorem vis_seen (c o : Int) (hc0 : 0 ≤ c) (hc3 : c ≤ 3) (h0 : 0 ≤ o) (h4 : o ≤ 4) (s : Nat) (hs : side o = s) {x y : Int} (hx0 : 0 ≤ x) (hx : x < s) (hy0 : 0 ≤ y) (hy : y < s) : gp (visTo c o s s) (idxI c o x y).toNat = (x, y) := by
  obtain ⟨c, rfl⟩ := Int.eq_ofNat_of_zero_le hc0
  obtain ⟨o, rfl⟩ := Int.eq_ofNat_of_zero_le h0
  have h := seenV_all ⟨c, by omega⟩ ⟨o, by omega⟩
  have e : (2 : Nat) ^ o = s := by
    have h1 : ((2 ^ o : Nat) : Int) = s := by rw [← hs]; simp [side]
    omega
  simp only [e] at h
  obtain ⟨x, rfl⟩ := Int.eq_ofNat_of_zero_le hx0
  obtain ⟨y, rfl⟩ := Int.eq_ofNat_of_zero_le hy0
  have hx' : x < s := by omega
  have hy' : y < s := by omega
  have hq : y * s + x < s * s := by
    have : (y + 1) * s ≤ s * s := Nat.mul_le_mul_right _ hy'
    rw [Nat.succ_mul] at this; omega
  have := (List.all_eq_true.1 h) (y * s + x) (List.mem_range.2 hq)
  simp only [decide_eq_true_eq] at this
  have e1 : (y * s + x) % s = x := by rw [Nat.add_comm, Nat.add_mul_mod_self_right, Nat.mod_eq_of_lt hx']
  have e2 : (y * s + x) / s = y := by rw [Nat.add_comm, Nat.add_mul_div_right _ _ (by omega), Nat.div_eq_of_lt hx', Nat.zero_add]
  rw [e1, e2] at this
  exact this

section
variable {c o : Int} (hc0 : 0 ≤ c) (hc3 : c ≤ 3) {s : Nat} (hs : side o = s) {f t : Int × Int} (hB : boxB o f t = true) {W H : Nat} (hW : t.1 - f.1 + 1 = W) (hH : t.2 - f.2 + 1 = H)
include hc0 hc3 hs hB hW hH
omit hc0 hc3 hs hB in
theorem bx_spot {q : Nat} (hq : q < W * H) : (f.1 ≤ f.1 + ((q % W : Nat) : Int) ∧ f.1 + ((q % W : Nat) : Int) ≤ t.1) ∧ f.2 ≤ f.2 + ((q / W : Nat) : Int) ∧ f.2 + ((q / W : Nat) : Int) ≤ t.2 := by
  have h1 : 0 < W := by
    rcases Nat.eq_zero_or_pos W with e | e
    · subst e; simp at hq
    · exact e
  have h2 := Nat.mod_lt q h1
  have h3 : q / W < H := Nat.div_lt_of_lt_mul hq
  generalize q % W = a at *
  generalize q / W = b at *
  omega
theorem bx_inj {q r : Nat} (hq : q < W * H) (hr : r < W * H) (he : idxI c o (f.1 + ((q % W : Nat) : Int)) (f.2 + ((q / W : Nat) : Int)) = idxI c o (f.1 + ((r % W : Nat) : Int)) (f.2 + ((r / W : Nat) : Int))) : q = r := by
  obtain ⟨⟨h0, h4⟩, b1, b2, b3, b4⟩ := boxB_iff.1 hB
  have q1 := bx_spot hW hH hq
  have r1 := bx_spot hW hH hr
  have eq := vis_seen c o hc0 hc3 h0 h4 s hs (x := f.1 + ((q % W : Nat) : Int)) (y := f.2 + ((q / W : Nat) : Int)) (by omega) (by omega) (by omega) (by omega)
  have er := vis_seen c o hc0 hc3 h0 h4 s hs (x := f.1 + ((r % W : Nat) : Int)) (y := f.2 + ((r / W : Nat) : Int)) (by omega) (by omega) (by omega) (by omega)
  rw [he, er] at eq
  rw [Prod.mk.injEq] at eq
  have e1 : q % W = r % W := by omega
  have e2 : q / W = r / W := by omega
  have d1 := Nat.div_add_mod q W
  have d2 := Nat.div_add_mod r W
  rw [e1, e2] at d1
  omega
theorem bx_mem {a : Int} : a ∈ bxTo c o f W (W * H) ↔ a ∈ ivN (visTo c o s s) f t (s * s) := by
  obtain ⟨⟨h0, h4⟩, b1, b2, b3, b4⟩ := boxB_iff.1 hB
  have hl := visTo_length c o s s
  rw [ivN_mem, bxTo, List.mem_map]
  constructor
  · rintro ⟨q, hq, rfl⟩
    rw [List.mem_range] at hq
    have q1 := bx_spot hW hH hq
    have bd := idxI_bd c o (f.1 + ((q % W : Nat) : Int)) (f.2 + ((q / W : Nat) : Int)) h0 h4 (by omega) (by omega) (by omega) (by omega)
    have eq := vis_seen c o hc0 hc3 h0 h4 s hs (x := f.1 + ((q % W : Nat) : Int)) (y := f.2 + ((q / W : Nat) : Int)) (by omega) (by omega) (by omega) (by omega)
    refine ⟨(idxI c o (f.1 + ((q % W : Nat) : Int)) (f.2 + ((q / W : Nat) : Int))).toNat, by omega, ?_, ?_⟩
    · rw [hs, ← Int.natCast_mul] at bd; omega
    · rw [eq, inBx_iff]; exact q1
  · rintro ⟨i, rfl, hi, hb⟩
    have hi' : i < (visTo c o s s).length := by omega
    have va := vis_at c o hc0 hc3 h0 h4 s hs i hi'
    have eg : gp (visTo c o s s) i = (visTo c o s s)[i] := by rw [gp, List.getD_eq_getElem?_getD, List.getElem?_eq_getElem hi']; rfl
    rw [eg] at hb
    generalize (visTo c o s s)[i] = p at *
    obtain ⟨x, y⟩ := p
    rw [inBx_iff] at hb
    simp only at hb va
    refine ⟨(y - f.2).toNat * W + (x - f.1).toNat, ?_, ?_⟩
    · rw [List.mem_range]
      have : ((y - f.2).toNat + 1) * W ≤ H * W := Nat.mul_le_mul_right _ (by omega)
      rw [Nat.succ_mul, Nat.mul_comm H W] at this
      omega
    · have hx' : (x - f.1).toNat < W := by omega
      have e1 : ((y - f.2).toNat * W + (x - f.1).toNat) % W = (x - f.1).toNat := by rw [Nat.add_comm, Nat.add_mul_mod_self_right, Nat.mod_eq_of_lt hx']
      have e2 : ((y - f.2).toNat * W + (x - f.1).toNat) / W = (y - f.2).toNat := by rw [Nat.add_comm, Nat.add_mul_div_right _ _ (by omega), Nat.div_eq_of_lt hx', Nat.zero_add]
      rw [e1, e2, ← va.2.2.2.2]
      congr 1 <;> omega
/-- The sorted indices of a box are those of the curve's spots in it. -/
theorem bx_sorted : (bxTo c o f W (W * H)).mergeSort (fun x y => decide (x ≤ y)) = ivN (visTo c o s s) f t (s * s) := by
  have hn : (bxTo c o f W (W * H)).Nodup := by
    rw [bxTo, List.Nodup, List.pairwise_map]
    refine List.Pairwise.imp_of_mem ?_ List.nodup_range
    intro q r hq hr hne he
    exact hne (bx_inj hc0 hc3 hs hB hW hH (List.mem_range.1 hq) (List.mem_range.1 hr) he)
  have hp : (bxTo c o f W (W * H)).Perm (ivN (visTo c o s s) f t (s * s)) := (List.perm_ext_iff_of_nodup hn (ivN_nodup _ _ _ _)).2 (fun a => bx_mem hc0 hc3 hs hB hW hH)
  have hp2 := (List.mergeSort_perm (bxTo c o f W (W * H)) (fun x y => decide (x ≤ y))).trans hp
  have hs1 := List.pairwise_mergeSort (le := fun x y : Int => decide (x ≤ y)) (fun a b c h1 h2 => by simp at *; omega) (fun a b => by simp; omega) (bxTo c o f W (W * H))
  refine List.Perm.eq_of_pairwise (le := fun x y : Int => decide (x ≤ y) = true) ?_ hs1 ((ivN_sorted _ _ _ _).imp (fun h => by simp; omega)) hp2
  intro a b _ _ h1 h2
  simp at h1 h2
  omega
end

/-- The last part ends with a number. -/
def setL (out : List (Int × Int)) (n : Int) : List (Int × Int) := out.set (out.length - 1) ((gp out (out.length - 1)).1, n)
theorem setL_len (out : List (Int × Int)) (n : Int) : (setL out n).length = out.length := by simp [setL]
/-- The parts of the first k numbers of a list. -/
def prtTo (gap : Int) (l : List Int) : Nat → List (Int × Int)
  | 0 => []
  | k + 1 => if 0 < k ∧ l.getD k 0 - l.getD (k - 1) 0 ≤ gap then setL (prtTo gap l k) (l.getD k 0) else prtTo gap l k ++ [(l.getD k 0, l.getD k 0)]
theorem prtTo_app (gap : Int) (l m : List Int) : ∀ k, k ≤ l.length → prtTo gap (l ++ m) k = prtTo gap l k := by
  intro k
  induction k with
  | zero => intro _; rfl
  | succ k ih =>
    intro h
    have e1 : (l ++ m).getD k 0 = l.getD k 0 := by simp only [List.getD_eq_getElem?_getD]; rw [List.getElem?_append_left (by omega)]
    have e2 : (l ++ m).getD (k - 1) 0 = l.getD (k - 1) 0 := by simp only [List.getD_eq_getElem?_getD]; rw [List.getElem?_append_left (by omega)]
    rw [prtTo, prtTo, e1, e2, ih (by omega)]
theorem prtTo_pos (gap : Int) (l : List Int) : ∀ k, 0 < k → 0 < (prtTo gap l k).length := by
  intro k
  induction k with
  | zero => intro h; omega
  | succ k ih =>
    intro _
    rw [prtTo]
    split
    · rename_i h; rw [setL_len]; exact ih h.1
    · simp
theorem prtTo_le (gap : Int) (l : List Int) : ∀ k, (prtTo gap l k).length ≤ k := by
  intro k
  induction k with
  | zero => simp [prtTo]
  | succ k ih =>
    rw [prtTo]
    split
    · rw [setL_len]; omega
    · simp; omega
/-- The parts as the reference finds them. -/
def spTo (V : List (Int × Int)) (f t : Int × Int) : Nat → List (Int × Int)
  | 0 => []
  | n + 1 => if inBx f t (gp V n) then (if 0 < n && inBx f t (gp V (n - 1)) then setL (spTo V f t n) n else spTo V f t n ++ [((n : Int), (n : Int))]) else spTo V f t n
theorem spTo_le (V : List (Int × Int)) (f t : Int × Int) : ∀ n, (spTo V f t n).length ≤ n := by
  intro n
  induction n with
  | zero => simp [spTo]
  | succ n ih =>
    rw [spTo]
    split
    · split
      · rw [setL_len]; omega
      · simp; omega
    · omega
theorem spTo_eq (V : List (Int × Int)) (f t : Int × Int) : ∀ n, spTo V f t n = prtTo 1 (ivN V f t n) (ivN V f t n).length := by
  intro n
  induction n with
  | zero => rfl
  | succ n ih =>
    rw [spTo, ivN_succ]
    cases hin : inBx f t (gp V n)
    · rw [if_neg (by simp), if_neg (by simp), List.append_nil]; exact ih
    · rw [if_pos rfl, if_pos rfl, List.length_append, List.length_singleton, prtTo]
      have e1 : (ivN V f t n ++ [(n : Int)]).getD (ivN V f t n).length 0 = n := by simp [List.getD_eq_getElem?_getD]
      rw [e1, prtTo_app _ _ _ _ (Nat.le_refl _), ← ih]
      by_cases hp : 0 < n ∧ inBx f t (gp V (n - 1)) = true
      · rw [if_pos (by simp [hp])]
        obtain ⟨m, rfl⟩ : ∃ m, n = m + 1 := ⟨n - 1, by omega⟩
        have e2 : ivN V f t (m + 1) = ivN V f t m ++ [(m : Int)] := by rw [ivN_succ, if_pos (by simpa using hp.2)]
        rw [if_pos]
        refine ⟨by rw [e2]; simp, ?_⟩
        rw [e2]
        simp [List.getD_eq_getElem?_getD]
        omega
      · rw [if_neg (by simpa using hp), if_neg]
        rintro ⟨h1, h2⟩
        have hl : (ivN V f t n).length - 1 < (ivN V f t n).length := by omega
        have e3 : (ivN V f t n ++ [(n : Int)]).getD ((ivN V f t n).length - 1) 0 = (ivN V f t n)[(ivN V f t n).length - 1] := by
          rw [List.getD_eq_getElem?_getD, List.getElem?_append_left hl, List.getElem?_eq_getElem hl]; rfl
        rw [e3] at h2
        obtain ⟨i, e4, hi, hb⟩ := ivN_mem.1 (List.getElem_mem hl)
        rw [e4] at h2
        have : i = n - 1 := by omega
        subst this
        exact hp ⟨by omega, hb⟩
end Go.Proofs.Ytbkgmegpgnmlpaa
