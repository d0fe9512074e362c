/- Trees of squares: the reference's reading. -/
import Derived.Test.YtogefmkplkddoaaTrS
namespace Go.Proofs.Ytogefmkplkddoaa
open Go.RowKit

/-- L' is L with the black leaves of a tree painted. -/
def Pnt (W : Nat) (T : QT) (n x y : Nat) (L L' : List Bool) : Prop :=
  L'.length = L.length ∧ ∀ i j, i < W → j < W → L'.getD (j * W + i) false = if (x ≤ i ∧ i < x + 2 ^ n) ∧ (y ≤ j ∧ j < y + 2 ^ n) then (T.px n (i - x) (j - y) || L.getD (j * W + i) false) else L.getD (j * W + i) false
theorem Pnt.white (W n x y : Nat) (L : List Bool) : Pnt W (.leaf false) n x y L L := ⟨rfl, fun i j _ _ => by
  split
  · cases n <;> simp [QT.px]
  · rfl⟩
theorem Pnt.node {W n x y : Nat} {a b c d : QT} {L L1 L2 L3 L4 : List Bool} (h1 : Pnt W a n x y L L1) (h2 : Pnt W b n (x + 2 ^ n) y L1 L2) (h3 : Pnt W c n x (y + 2 ^ n) L2 L3) (h4 : Pnt W d n (x + 2 ^ n) (y + 2 ^ n) L3 L4) :
    Pnt W (.node a b c d) (n + 1) x y L L4 := by
  refine ⟨by rw [h4.1, h3.1, h2.1, h1.1], fun i j hi hj => ?_⟩
  have e1 := h1.2 i j hi hj
  have e2 := h2.2 i j hi hj
  have e3 := h3.2 i j hi hj
  have e4 := h4.2 i j hi hj
  have hp : 2 ^ (n + 1) = 2 ^ n + 2 ^ n := by rw [Nat.pow_succ]; omega
  have px : ∀ u v, QT.px (n + 1) (.node a b c d) u v = if v < 2 ^ n then (if u < 2 ^ n then a.px n u v else b.px n (u - 2 ^ n) v) else (if u < 2 ^ n then c.px n u (v - 2 ^ n) else d.px n (u - 2 ^ n) (v - 2 ^ n)) := fun _ _ => rfl
  rw [hp, px]
  clear px
  generalize 2 ^ n = h at *
  by_cases hx : x ≤ i ∧ i < x + (h + h)
  · by_cases hy : y ≤ j ∧ j < y + (h + h)
    · rw [if_pos ⟨hx, hy⟩]
      by_cases hx2 : i < x + h
      · by_cases hy2 : j < y + h
        · rw [if_pos (by omega)] at e1
          rw [if_neg (by omega)] at e2 e3 e4
          rw [e4, e3, e2, e1, if_pos (by omega), if_pos (by omega)]
        · rw [if_pos (by omega)] at e3
          rw [if_neg (by omega)] at e1 e2 e4
          rw [e4, e3, e2, e1, if_neg (by omega), if_pos (by omega), show j - (y + h) = j - y - h by omega]
      · by_cases hy2 : j < y + h
        · rw [if_pos (by omega)] at e2
          rw [if_neg (by omega)] at e1 e3 e4
          rw [e4, e3, e2, e1, if_pos (by omega), if_neg (by omega), show i - (x + h) = i - x - h by omega]
        · rw [if_pos (by omega)] at e4
          rw [if_neg (by omega)] at e1 e2 e3
          rw [e4, e3, e2, e1, if_neg (by omega), if_neg (by omega), show i - (x + h) = i - x - h by omega, show j - (y + h) = j - y - h by omega]
    · rw [if_neg (fun h => hy h.2), e4, if_neg (by omega), e3, if_neg (by omega), e2, if_neg (by omega), e1, if_neg (by omega)]
  · rw [if_neg (fun h => hx h.1), e4, if_neg (by omega), e3, if_neg (by omega), e2, if_neg (by omega), e1, if_neg (by omega)]
/-- What is read from a place on, if it is one. -/
def rdZ (n : Nat) (t : ByteArray) (at_ : Int) : Option (QT × List UInt8) := if at_ < 0 then none else rd false n (t.data.toList.drop at_.toNat)
def atR (t : ByteArray) : Option (QT × List UInt8) → Int
  | none => -1
  | some z => ((t.size - z.2.length : Nat) : Int)
theorem rdZ_neg {n : Nat} {t : ByteArray} {z : Int} (h : z < 0) : rdZ n t z = none := by rw [rdZ, if_pos h]
theorem rdZ_nat (n : Nat) (t : ByteArray) (p : Nat) : rdZ n t (p : Int) = rd false n (t.data.toList.drop p) := by
  rw [rdZ, if_neg (by omega)]; simp
/-- Where it ends, it goes on. -/
theorem rd_ends {n : Nat} {t : ByteArray} {p : Nat} {T : QT} {r : List UInt8} (h : rd false n (t.data.toList.drop p) = some (T, r)) : p < t.size - r.length ∧ t.size - r.length ≤ t.size ∧ t.data.toList.drop (t.size - r.length) = r := by
  obtain ⟨h1, _, _⟩ := rd_some n _ T r h
  have hl : t.data.toList.length = t.size := rfl
  have h2 := congrArg List.length h1
  rw [List.length_drop, List.length_append, hl] at h2
  have h3 : 0 < T.txt.length := by cases T <;> simp [QT.txt]
  refine ⟨by omega, by omega, ?_⟩
  have h4 : t.data.toList.drop (t.size - r.length) = (t.data.toList.drop p).drop (t.size - r.length - p) := by rw [List.drop_drop, show p + (t.size - r.length - p) = t.size - r.length by omega]
  rw [h4, h1, show t.size - r.length - p = T.txt.length by omega, List.drop_left]
theorem atR_neg {t : ByteArray} {o : Option (QT × List UInt8)} (h : atR t o < 0) : o = none := by
  cases o with
  | none => rfl
  | some z => simp only [atR] at h; omega
/-- Four squares, one after another. -/
theorem four_bad {n : Nat} {t : ByteArray} {p : Nat} {r1 r2 r3 r4 : Int} (h1 : r1 = atR t (rdZ n t (p + 1 : Nat))) (h2 : r2 = atR t (rdZ n t r1)) (h3 : r3 = atR t (rdZ n t r2)) (h4 : r4 = atR t (rdZ n t r3)) (hneg : r4 < 0) :
    rd false (n + 1) (40 :: t.data.toList.drop (p + 1)) = none := by
  rw [rd_node]
  rw [rdZ_nat] at h1
  cases ha : rd false n (t.data.toList.drop (p + 1)) with
  | none => rfl
  | some a =>
    obtain ⟨a, ra⟩ := a
    rw [ha] at h1
    obtain ⟨x1, x2, x3⟩ := rd_ends ha
    simp only [atR] at h1
    subst h1
    rw [rdZ_nat, x3] at h2
    simp only [Option.bind_some]
    cases hb : rd false n ra with
    | none => rfl
    | some b =>
      obtain ⟨b, rb⟩ := b
      rw [hb] at h2
      rw [← x3] at hb
      obtain ⟨y1, y2, y3⟩ := rd_ends hb
      simp only [atR] at h2
      subst h2
      rw [rdZ_nat, y3] at h3
      simp only [Option.bind_some]
      cases hc : rd false n rb with
      | none => rfl
      | some c =>
        obtain ⟨c, rc⟩ := c
        rw [hc] at h3
        rw [← y3] at hc
        obtain ⟨z1, z2, z3⟩ := rd_ends hc
        simp only [atR] at h3
        subst h3
        rw [rdZ_nat, z3] at h4
        simp only [Option.bind_some]
        rw [h4] at hneg
        rw [atR_neg hneg]; rfl
theorem four_good {n : Nat} {t : ByteArray} {p : Nat} {r1 r2 r3 r4 : Int} (h1 : r1 = atR t (rdZ n t (p + 1 : Nat))) (h2 : r2 = atR t (rdZ n t r1)) (h3 : r3 = atR t (rdZ n t r2)) (h4 : r4 = atR t (rdZ n t r3)) (hpos : ¬ r4 < 0) :
    ∃ a b c d ra rb rc, ∃ q : Nat, r4 = q ∧ q ≤ t.size ∧ rdZ n t (p + 1 : Nat) = some (a, ra) ∧ rdZ n t r1 = some (b, rb) ∧ rdZ n t r2 = some (c, rc) ∧ rdZ n t r3 = some (d, t.data.toList.drop q) ∧
      rd false (n + 1) (40 :: t.data.toList.drop (p + 1)) = rdE false a b c d (t.data.toList.drop q) := by
  cases ha : rdZ n t (p + 1 : Nat) with
  | none => rw [ha] at h1; simp only [atR] at h1; rw [rdZ_neg (by omega)] at h2; simp only [atR] at h2; rw [rdZ_neg (by omega)] at h3; simp only [atR] at h3; rw [rdZ_neg (by omega)] at h4; simp only [atR] at h4; omega
  | some a =>
    obtain ⟨a, ra⟩ := a
    rw [ha] at h1
    rw [rdZ_nat] at ha
    obtain ⟨x1, x2, x3⟩ := rd_ends ha
    simp only [atR] at h1
    subst h1
    cases hb : rdZ n t (t.size - ra.length : Nat) with
    | none => rw [hb] at h2; simp only [atR] at h2; rw [rdZ_neg (by omega)] at h3; simp only [atR] at h3; rw [rdZ_neg (by omega)] at h4; simp only [atR] at h4; omega
    | some b =>
      obtain ⟨b, rb⟩ := b
      rw [hb] at h2
      rw [rdZ_nat] at hb
      obtain ⟨y1, y2, y3⟩ := rd_ends hb
      simp only [atR] at h2
      subst h2
      cases hc : rdZ n t (t.size - rb.length : Nat) with
      | none => rw [hc] at h3; simp only [atR] at h3; rw [rdZ_neg (by omega)] at h4; simp only [atR] at h4; omega
      | some c =>
        obtain ⟨c, rc⟩ := c
        rw [hc] at h3
        rw [rdZ_nat] at hc
        obtain ⟨z1, z2, z3⟩ := rd_ends hc
        simp only [atR] at h3
        subst h3
        cases hd : rdZ n t (t.size - rc.length : Nat) with
        | none => rw [hd] at h4; simp only [atR] at h4; omega
        | some d =>
          obtain ⟨d, rdd⟩ := d
          rw [hd] at h4
          rw [rdZ_nat] at hd
          obtain ⟨u1, u2, u3⟩ := rd_ends hd
          simp only [atR] at h4
          subst h4
          refine ⟨a, b, c, d, ra, rb, rc, _, rfl, u2, rfl, rfl, rfl, by rw [u3], ?_⟩
          rw [rd_node, ha]
          simp only [Option.bind_some]
          rw [← x3, hb]
          simp only [Option.bind_some]
          rw [← y3, hc]
          simp only [Option.bind_some]
          rw [← z3, hd]
          simp only [Option.bind_some]
          rw [u3]
theorem idx_inj {W i j i' j' : Nat} (hi : i < W) (hi' : i' < W) (h : j' * W + i' = j * W + i) : i' = i ∧ j' = j := by
  have h1 : (j' * W + i') % W = i' := by rw [Nat.add_comm, Nat.add_mul_mod_self_right]; exact Nat.mod_eq_of_lt hi'
  have h2 : (j * W + i) % W = i := by rw [Nat.add_comm, Nat.add_mul_mod_self_right]; exact Nat.mod_eq_of_lt hi
  have h3 : i' = i := by rw [← h1, h, h2]
  subst h3
  have h4 : j' * W = j * W := by omega
  exact ⟨rfl, Nat.eq_of_mul_eq_mul_right (by omega) h4⟩
/-- How far the painting of a square has come: j rows, and i pixels of the next. -/
def PaI (W S x y : Nat) (L : List Bool) (j i : Nat) (L' : List Bool) : Prop :=
  L'.length = L.length ∧ ∀ i' j', i' < W → j' < W → L'.getD (j' * W + i') false = if ((x ≤ i' ∧ i' < x + S) ∧ (y ≤ j' ∧ j' < y + j)) ∨ (j' = y + j ∧ x ≤ i' ∧ i' < x + i) then true else L.getD (j' * W + i') false
section
variable {W S x y j i : Nat} {L L' : List Bool}
theorem PaI.start : PaI W S x y L 0 0 L := ⟨rfl, fun i' j' _ _ => by rw [if_neg (by omega)]⟩
theorem PaI.put (h : PaI W S x y L j i L') (hi : x + i < W) (hk : (y + j) * W + (x + i) < L'.length) : PaI W S x y L j (i + 1) (L'.set ((y + j) * W + (x + i)) true) := by
  refine ⟨by rw [List.length_set]; exact h.1, fun i' j' hi' hj' => ?_⟩
  rw [List.getD_eq_getElem?_getD]
  by_cases he : j' * W + i' = (y + j) * W + (x + i)
  · obtain ⟨rfl, rfl⟩ := idx_inj hi hi' he
    rw [List.getElem?_set_self hk, if_pos (by omega)]; rfl
  · rw [List.getElem?_set_ne (fun e => he e.symm), ← List.getD_eq_getElem?_getD, h.2 i' j' hi' hj']
    by_cases hc : ((x ≤ i' ∧ i' < x + S) ∧ (y ≤ j' ∧ j' < y + j)) ∨ (j' = y + j ∧ x ≤ i' ∧ i' < x + i)
    · rw [if_pos hc, if_pos (by omega)]
    · rw [if_neg hc, if_neg (fun h2 => by
        rcases h2 with h2 | ⟨h3, h4, h5⟩
        · exact hc (.inl h2)
        · by_cases h6 : i' = x + i
          · exact he (by rw [h3, h6])
          · exact hc (.inr ⟨h3, h4, by omega⟩))]
theorem PaI.row (h : PaI W S x y L j S L') : PaI W S x y L (j + 1) 0 L' := by
  refine ⟨h.1, fun i' j' hi' hj' => ?_⟩
  rw [h.2 i' j' hi' hj']
  by_cases hc : ((x ≤ i' ∧ i' < x + S) ∧ (y ≤ j' ∧ j' < y + j)) ∨ (j' = y + j ∧ x ≤ i' ∧ i' < x + S)
  · rw [if_pos hc, if_pos (by omega)]
  · rw [if_neg hc, if_neg (by omega)]
theorem PaI.done {n : Nat} (h : PaI W S x y L S 0 L') (hS : S = 2 ^ n) : Pnt W (.leaf true) n x y L L' := by
  refine ⟨h.1, fun i' j' hi' hj' => ?_⟩
  rw [h.2 i' j' hi' hj', ← hS]
  have e : QT.px n (.leaf true) (i' - x) (j' - y) = true := by cases n <;> rfl
  rw [e, Bool.true_or]
  by_cases hc : (x ≤ i' ∧ i' < x + S) ∧ (y ≤ j' ∧ j' < y + S)
  · rw [if_pos (.inl hc), if_pos hc]
  · rw [if_neg (by omega), if_neg hc]
end
/-- A call has read a square. -/
def RzRes (n : Nat) (t : ByteArray) (z : Int) (g M W x y : Nat) (L : List Bool) (w : World) (e : Ending) (w' : World) : Prop :=
  ∃ L', e = .returned (.int .i64 (atR t (rdZ n t z))) ∧ Blk w' g 4 (boolC L') ∧ L'.length = M ∧ Chg (fun b => b = g) w w' ∧ ∀ T r, rdZ n t z = some (T, r) → Pnt W T n x y L L'
theorem RzRes.none {n : Nat} {t : ByteArray} {z : Int} {g M W x y : Nat} {L : List Bool} {w : World} (h : rdZ n t z = none) (hB : Blk w g 4 (boolC L)) (hL : L.length = M) : RzRes n t z g M W x y L w (.returned (.int .i64 (-1))) w := by
  refine ⟨L, by rw [h]; rfl, hB, hL, Chg.refl _ _, fun T r h2 => by rw [h] at h2; cases h2⟩
theorem RzRes.some {n : Nat} {t : ByteArray} {z q : Int} {g M W x y : Nat} {L L' : List Bool} {w w' : World} {T : QT} {r : List UInt8} (h : rdZ n t z = some (T, r)) (hq : ((t.size - r.length : Nat) : Int) = q) (hB : Blk w' g 4 (boolC L')) (hL : L'.length = M) (hc : Chg (fun b => b = g) w w') (hP : Pnt W T n x y L L') : RzRes n t z g M W x y L w (.returned (.int .i64 q)) w' := by
  refine ⟨L', by rw [h, ← hq]; rfl, hB, hL, hc, fun T' r' h2 => ?_⟩
  rw [h] at h2
  cases h2
  exact hP
set_option maxRecDepth 100000 in
set_option maxHeartbeats 2000000 in
theorem readS_base (t : ByteArray) (ht : t.size ≤ 1000000) (g M W : Nat) (hM : M ≤ 1000) (hWM : W * W ≤ M) (hW : W ≤ 16) (n S x y : Nat) (z : Int) (L : List Bool) (w : World) (hS : S = 2 ^ n) (hx : x + S ≤ W) (hy : y + S ≤ W) (hL : L.length = M) (hB : Blk w g 4 (boolC L)) (hz0 : -1 ≤ z) (hz1 : z ≤ t.size)
    (hno : n = 0 ∨ ∀ p : Nat, z = p → ∀ h : p < t.size, t[p] ≠ 40) :
    Calls Try.prog 54 #[.string t, .int .i64 z, .slice (some ⟨g, 0, none⟩) M M, .int .i64 W, .int .i64 x, .int .i64 y, .int .i64 S] w (RzRes n t z g M W x y L w) := by
  have HB := Lib.hid hB
  have HLL := Lib.hid hL
  by_cases hneg : z < 0
  · have F := Lib.hid (rdZ_neg (n := n) (t := t) hneg)
    clear hB hL hS hno
    go_enter Try.func54, Try.ntmps54
    go_wp2_with fail
    go_ret
    exact RzRes.none F.out HB.out HLL.out
  obtain ⟨p, rfl⟩ := Int.eq_ofNat_of_zero_le (show 0 ≤ z by omega)
  have HLN : Hid (t.data.toList.length = t.size) := rfl
  by_cases hend : t.size ≤ p
  · have F : Hid (rdZ n t (p : Int) = none) := by rw [Hid, rdZ_nat, List.drop_of_length_le (by have := HLN.out; omega), rd_nil]
    have q1 : (t.size : Int) ≤ (p : Int) := by omega
    clear hB hL hS hno
    go_enter Try.func54, Try.ntmps54
    go_wp2_with fail
    go_ret
    exact RzRes.none F.out HB.out HLL.out
  have hpt : p < t.size := by omega
  have hD : t.data.toList.drop p = t[p] :: t.data.toList.drop (p + 1) := List.drop_eq_getElem_cons (by have := HLN.out; omega)
  have LQ : Hid (((t.size - (t.data.toList.drop (p + 1)).length : Nat) : Int) = (p : Int) + 1) := by rw [Hid, List.length_drop]; have := HLN.out; omega
  have q1 : ¬ (t.size : Int) ≤ (p : Int) := by omega
  have p0 : (0 : Int) ≤ (p : Int) := by omega
  have p1 : (p : Int) < (t.size : Int) := by omega
  by_cases h46 : t[p] = 46
  · have F : Hid (rdZ n t (p : Int) = some (.leaf false, t.data.toList.drop (p + 1))) := by rw [Hid, rdZ_nat, hD, h46, rd_leaf _ _ (.inr rfl)]; rfl
    have hv : ((t[p].toNat : Nat) : Int) = 46 := by rw [h46]; rfl
    clear hD h46 hB hL hS hno
    go_enter Try.func54, Try.ntmps54
    go_wp2_with fail
    go_ret
    exact RzRes.some F.out LQ.out HB.out HLL.out (Chg.refl _ _) (Pnt.white _ _ _ _ _)
  have hv46 : (((t[p].toNat : Nat) : Int) == 46) = false := by
    rw [beq_eq_false_iff_ne]; intro e; exact h46 (UInt8.toNat_inj.1 (by rw [show (46 : UInt8).toNat = 46 from rfl]; omega))
  by_cases h35 : t[p] = 35
  case neg =>
    have hv35 : (((t[p].toNat : Nat) : Int) == 35) = false := by
      rw [beq_eq_false_iff_ne]; intro e; exact h35 (UInt8.toNat_inj.1 (by rw [show (35 : UInt8).toNat = 35 from rfl]; omega))
    by_cases h40 : t[p] = 40
    · have hn0 : n = 0 := by
        rcases hno with h | h
        · exact h
        · exact absurd h40 (h p rfl hpt)
      have F : Hid (rdZ n t (p : Int) = none) := by rw [Hid, rdZ_nat, hD, hn0, rd_bad0 _ (by rintro (h | h); exact h35 h; exact h46 h)]
      have hS1 : ((S : Int) == 1) = true := by rw [hS, hn0]; rfl
      have hv40 : ((t[p].toNat : Nat) : Int) = 40 := by rw [h40]; rfl
      clear hD h46 h35 h40 hB hL hS hno hn0 hv46 hv35
      go_enter Try.func54, Try.ntmps54
      go_wp2_with fail
      go_ret
      exact RzRes.none F.out HB.out HLL.out
    · have F : Hid (rdZ n t (p : Int) = none) := by rw [Hid, rdZ_nat, hD, rd_bad _ _ (by rintro (h | h); exact h35 h; exact h46 h) h40]
      have hv40 : (((t[p].toNat : Nat) : Int) == 40) = false := by
        rw [beq_eq_false_iff_ne]; intro e; exact h40 (UInt8.toNat_inj.1 (by rw [show (40 : UInt8).toNat = 40 from rfl]; omega))
      clear hD h46 h35 h40 hB hL hS hno
      go_enter Try.func54, Try.ntmps54
      go_wp2_with fail
      go_ret
      exact RzRes.none F.out HB.out HLL.out
  have F : Hid (rdZ n t (p : Int) = some (.leaf true, t.data.toList.drop (p + 1))) := by rw [Hid, rdZ_nat, hD, h35, rd_leaf _ _ (.inl rfl)]; rfl
  have hv : ((t[p].toNat : Nat) : Int) = 35 := by rw [h35]; rfl
  have HS := Lib.hid hS
  have IDX : Hid (∀ i j, i < S → j < S → (y + j) * W + (x + i) < M) := fun i j hi hj => by
    have : (y + j + 1) * W ≤ W * W := Nat.mul_le_mul_right _ (by omega)
    rw [Nat.succ_mul] at this
    omega
  clear hD h46 h35 hB hL hS hno hv46
  go_enter Try.func54, Try.ntmps54
  go_wp2_with fail
  go_loopw [15, 16] (fun jv _ wr => ∃ (j : Nat) (L' : List Bool), j ≤ S ∧ jv = .int .i64 ((y + j : Nat) : Int) ∧ Hid (PaI W S x y L j 0 L' ∧ Blk wr g 4 (boolC L') ∧ Chg (fun b => b = g) w wr)) (fun jv _ _ => y + S - (intOf jv).toNat)
  case atStart => exact ⟨0, L, Nat.zero_le _, rfl, PaI.start, HB.out, Chg.refl _ _⟩
  case round =>
    obtain ⟨j, L1, hj, rfl, hJ⟩ := hrel
    by_cases hlt : j < S
    · have q0 : ((y + j : Nat) : Int) < (y : Int) + (S : Int) := by omega
      obtain ⟨Y, hY⟩ : ∃ Y, y + j = Y := ⟨_, rfl⟩
      have HY := Lib.hid hY
      rw [hY] at q0 ⊢
      have hYb : Y < W := by omega
      clear hY
      go_wp2_with fail
      go_loopw [16] (fun iv wi => ∃ (i : Nat) (L' : List Bool), i ≤ S ∧ iv = .int .i64 ((x + i : Nat) : Int) ∧ Hid (PaI W S x y L j i L' ∧ Blk wi g 4 (boolC L') ∧ Chg (fun b => b = g) w wi)) (fun iv _ => x + S - (intOf iv).toNat)
      case atStart => exact ⟨0, L1, Nat.zero_le _, rfl, hJ⟩
      case round =>
        obtain ⟨i, L2, hi, rfl, hI⟩ := hrel
        by_cases hil : i < S
        · obtain ⟨X, hX⟩ : ∃ X, x + i = X := ⟨_, rfl⟩
          have q2 : (X : Int) < (x : Int) + (S : Int) := by omega
          have hXb : X < W := by omega
          have hk := IDX.out i j hil hlt
          rw [hX, HY.out] at hk
          obtain ⟨K, hK⟩ : ∃ K, Y * W + X = K := ⟨_, rfl⟩
          have hKi : (Y : Int) * (W : Int) + (X : Int) = (K : Int) := by rw [← Int.natCast_mul]; omega
          have hL2 : L2.length = M := by rw [hI.out.1.1]; exact HLL.out
          have ck := (hI.out.2.1.cell K).trans (boolC_get L2 K (by omega))
          have fk := hI.out.2.1.free K
          generalize L2[K] = u at ck
          have NX : Hid (PaI W S x y L j (i + 1) (L2.set K true) ∧ Blk (wr.setCell ⟨g, K, none⟩ (.bool true)) g 4 (boolC (L2.set K true)) ∧ Chg (fun b => b = g) w (wr.setCell ⟨g, K, none⟩ (.bool true))) := by
            refine ⟨?_, ?_, hI.out.2.2.store (p := ⟨g, K, Option.none⟩) rfl _⟩
            · have := hI.out.1.put (by omega) (by rw [HY.out, hX, hK]; omega)
              rwa [HY.out, hX, hK] at this
            · have := hI.out.2.1.store K (.bool true)
              rwa [boolC_set] at this
          rw [hX]
          have k0 : (0 : Int) ≤ (K : Int) := by omega
          have k1 : (K : Int) < (M : Int) := by omega
          have hmw : (Y : Int) * (W : Int) ≤ 1000 := by omega
          have hmw0 : (0 : Int) ≤ (Y : Int) * (W : Int) := Int.mul_nonneg (by omega) (by omega)
          have HX := Lib.hid hX
          clear hX hK hI hL2
          go_wp2_with fail
          go_roundw
          case rel => exact ⟨i + 1, L2.set K true, by omega, by have := HX.out; go_num, NX.out⟩
          case measure => simp [intOf]; omega
        · obtain rfl : i = S := by omega
          have J2 : Hid (PaI W i x y L (j + 1) 0 L2 ∧ Blk wr g 4 (boolC L2) ∧ Chg (fun b => b = g) w wr) := ⟨hI.out.1.row, hI.out.2⟩
          have q2 : ¬ ((x + i : Nat) : Int) < (x : Int) + (i : Int) := by omega
          clear hI
          go_wp2_with fail
          go_roundw
          case rel => exact ⟨j + 1, L2, by omega, by have := HY.out; go_num, J2.out⟩
          case measure => have := HY.out; simp [intOf]; omega
    · obtain rfl : j = S := by omega
      have q0 : ¬ ((y + j : Nat) : Int) < (y : Int) + (j : Int) := by omega
      have PD : Hid (Pnt W (.leaf true) n x y L L1) := hJ.out.1.done HS.out
      go_wp2_with fail
      go_ret
      exact RzRes.some F.out LQ.out hJ.out.2.1 (by rw [hJ.out.1.1]; exact HLL.out) hJ.out.2.2 PD.out
theorem atR_bd (t : ByteArray) (o : Option (QT × List UInt8)) : -1 ≤ atR t o ∧ atR t o ≤ (t.size : Int) := by
  cases o with
  | none => simp only [atR]; omega
  | some z => simp only [atR]; omega
set_option maxRecDepth 100000 in
set_option maxHeartbeats 2000000 in
theorem readS_any (t : ByteArray) (ht : t.size ≤ 1000000) (g M W : Nat) (hM : M ≤ 1000) (hWM : W * W ≤ M) (hW : W ≤ 16) : ∀ (n : Nat), n ≤ 4 → ∀ (S x y : Nat) (z : Int) (L : List Bool) (w : World), S = 2 ^ n → x + S ≤ W → y + S ≤ W → L.length = M → Blk w g 4 (boolC L) → -1 ≤ z → z ≤ t.size →
    Calls Try.prog 54 #[.string t, .int .i64 z, .slice (some ⟨g, 0, none⟩) M M, .int .i64 W, .int .i64 x, .int .i64 y, .int .i64 S] w (RzRes n t z g M W x y L w) := by
  intro n
  induction n with
  | zero =>
    intro _ S x y z L w hS hx hy hL hB hz0 hz1
    exact readS_base t ht g M W hM hWM hW 0 S x y z L w hS hx hy hL hB hz0 hz1 (.inl rfl)
  | succ n ih =>
    intro hn S x y z L w hS hx hy hL hB hz0 hz1
    by_cases hno : ∀ p : Nat, z = p → ∀ h : p < t.size, t[p] ≠ 40
    · exact readS_base t ht g M W hM hWM hW (n + 1) S x y z L w hS hx hy hL hB hz0 hz1 (.inr hno)
    obtain ⟨p, hp⟩ := Classical.not_forall.1 hno
    have hzp : z = p := by
      by_cases h : z = p
      · exact h
      · exact absurd (fun h' => absurd h' h) hp
    subst hzp
    have hpt : p < t.size := by
      by_cases h : p < t.size
      · exact h
      · exact absurd (fun _ h' => absurd h' h) hp
    have h40 : t[p] = 40 := by
      by_cases h : t[p] = 40
      · exact h
      · exact absurd (fun _ _ => h) hp
    clear hno hp
    obtain ⟨h, hh⟩ : ∃ h, 2 ^ n = h := ⟨_, rfl⟩
    have hS2 : S = 2 * h := by rw [hS, Nat.pow_succ, ← hh]; omega
    have h0 : 0 < h := by rw [← hh]; exact Nat.pow_pos (by decide)
    have IH := Lib.hid (fun x y z L w => ih (by omega) h x y z L w hh.symm)
    have HH := Lib.hid hh
    have HLN : Hid (t.data.toList.length = t.size) := rfl
    have hD : t.data.toList.drop p = 40 :: t.data.toList.drop (p + 1) := by rw [← h40]; exact List.drop_eq_getElem_cons (by have := HLN.out; omega)
    have RD : Hid (rdZ (n + 1) t (p : Int) = rd false (n + 1) (40 :: t.data.toList.drop (p + 1))) := by rw [Hid, rdZ_nat, hD]
    have e2 : (S : Int).tdiv 2 = (h : Int) := by rw [Int.tdiv_eq_ediv_of_nonneg (by omega)]; omega
    have hS1 : ((S : Int) == 1) = false := by rw [beq_eq_false_iff_ne]; omega
    have hv35 : (((t[p].toNat : Nat) : Int) == 35) = false := by rw [h40]; rfl
    have hv46 : (((t[p].toNat : Nat) : Int) == 46) = false := by rw [h40]; rfl
    have hv40 : ((t[p].toNat : Nat) : Int) = 40 := by rw [h40]; rfl
    have hxa : x + h ≤ W := by omega
    have hya : y + h ≤ W := by omega
    have hxb : x + h + h ≤ W := by omega
    have hyb : y + h + h ≤ W := by omega
    have q1 : ¬ (t.size : Int) ≤ (p : Int) := by omega
    have p0 : (0 : Int) ≤ (p : Int) := by omega
    have p1 : (p : Int) < (t.size : Int) := by omega
    have HB := Lib.hid hB
    have HL := Lib.hid hL
    have I1 := Lib.hid (IH.out x y ((p + 1 : Nat) : Int) L w hxa hya hL hB (by omega) (by omega))
    obtain ⟨xh, hxh⟩ : ∃ xh, x + h = xh := ⟨_, rfl⟩
    obtain ⟨yh, hyh⟩ : ∃ yh, y + h = yh := ⟨_, rfl⟩
    have ex : (x : Int) + (h : Int) = (xh : Int) := by omega
    have ey : (y : Int) + (h : Int) = (yh : Int) := by omega
    have HXY : Hid (xh = x + 2 ^ n ∧ yh = y + 2 ^ n) := ⟨by rw [← hxh, HH.out], by rw [← hyh, HH.out]⟩
    rw [hxh] at hxb
    rw [hyh] at hyb
    have ep : (p : Int) + 1 = ((p + 1 : Nat) : Int) := by omega
    obtain ⟨pp, hpp⟩ : ∃ pp, p + 1 = pp := ⟨_, rfl⟩
    have HPP := Lib.hid hpp
    rw [hpp] at ep I1
    clear ih hS hh hS2 hD h40 hB hL hxh hyh hpp
    go_enter Try.func54, Try.ntmps54
    go_wp2_with fail
    refine I1.out.mono ?_
    rintro e w1 ⟨L1, rfl, B1, hL1, C1, P1⟩
    obtain ⟨r1, hr1⟩ : ∃ r1, atR t (rdZ n t (pp : Int)) = r1 := ⟨_, rfl⟩
    have b1 := atR_bd t (rdZ n t (pp : Int))
    rw [hr1] at b1 ⊢
    have I2 := Lib.hid (IH.out xh y r1 L1 w1 hxb hya hL1 B1 b1.1 b1.2)
    have HP1 := Lib.hid P1
    have HR1 := Lib.hid hr1
    have HC1 := Lib.hid C1
    clear I1 P1 hr1 C1 B1 hL1
    go_wp2_with fail
    refine I2.out.mono ?_
    rintro e w2 ⟨L2, rfl, B2, hL2, C2, P2⟩
    obtain ⟨r2, hr2⟩ : ∃ r2, atR t (rdZ n t r1) = r2 := ⟨_, rfl⟩
    have b2 := atR_bd t (rdZ n t r1)
    rw [hr2] at b2 ⊢
    have I3 := Lib.hid (IH.out x yh r2 L2 w2 hxa hyb hL2 B2 b2.1 b2.2)
    have HP2 := Lib.hid P2
    have HR2 := Lib.hid hr2
    have HC2 := Lib.hid (HC1.out.trans C2)
    clear I2 P2 hr2 C2 B2 hL2 HC1 b1
    go_wp2_with fail
    refine I3.out.mono ?_
    rintro e w3 ⟨L3, rfl, B3, hL3, C3, P3⟩
    obtain ⟨r3, hr3⟩ : ∃ r3, atR t (rdZ n t r2) = r3 := ⟨_, rfl⟩
    have b3 := atR_bd t (rdZ n t r2)
    rw [hr3] at b3 ⊢
    have I4 := Lib.hid (IH.out xh yh r3 L3 w3 hxb hyb hL3 B3 b3.1 b3.2)
    have HP3 := Lib.hid P3
    have HR3 := Lib.hid hr3
    have HC3 := Lib.hid (HC2.out.trans C3)
    clear I3 P3 hr3 C3 B3 hL3 HC2 b2
    go_wp2_with fail
    refine I4.out.mono ?_
    rintro e w4 ⟨L4, rfl, B4, hL4, C4, P4⟩
    obtain ⟨r4, hr4⟩ : ∃ r4, atR t (rdZ n t r3) = r4 := ⟨_, rfl⟩
    have b4 := atR_bd t (rdZ n t r3)
    rw [hr4] at b4 ⊢
    have HP4 := Lib.hid P4
    have HR4 := Lib.hid hr4
    have HC4 := Lib.hid (HC3.out.trans C4)
    have HB4 := Lib.hid B4
    have HL4 := Lib.hid hL4
    clear I4 P4 hr4 C4 B4 hL4 HC3 b3 HB HL IH
    have h1' : r1 = atR t (rdZ n t (p + 1 : Nat)) := by rw [HPP.out]; exact HR1.out.symm
    by_cases hneg : r4 < 0
    · have F : Hid (rdZ (n + 1) t (p : Int) = none) := by rw [Hid, RD.out]; exact four_bad h1' HR2.out.symm HR3.out.symm HR4.out.symm hneg
      clear h1'
      go_wp2_with fail
      go_ret
      exact ⟨L4, by rw [F.out]; rfl, HB4.out, HL4.out, HC4.out, fun T r h => by rw [F.out] at h; cases h⟩
    obtain ⟨a, b, c, d, ra, rb, rc, q, rfl, hqs, Q1, Q2, Q3, Q4, QE⟩ := four_good h1' HR2.out.symm HR3.out.symm HR4.out.symm hneg
    rw [HPP.out] at Q1
    have RE := Lib.hid (RD.out.trans QE)
    have K1 := Lib.hid (HP1.out _ _ Q1)
    have K2 := Lib.hid (HP2.out _ _ Q2)
    have K3 := Lib.hid (HP3.out _ _ Q3)
    have K4 := Lib.hid (HP4.out _ _ Q4)
    clear h1' Q1 Q2 Q3 Q4 QE HP1 HP2 HP3 HP4 HR1 HR2 HR3 HR4 RD
    by_cases hend : t.size ≤ q
    · have F : Hid (rdZ (n + 1) t (p : Int) = none) := by rw [Hid, RE.out, List.drop_of_length_le (by have := HLN.out; omega)]; rfl
      have g1 : (t.size : Int) ≤ (q : Int) := by omega
      go_wp2_with fail
      go_ret
      exact ⟨L4, by rw [F.out]; rfl, HB4.out, HL4.out, HC4.out, fun T r h => by rw [F.out] at h; cases h⟩
    have hqt : q < t.size := by omega
    have hDq : t.data.toList.drop q = t[q] :: t.data.toList.drop (q + 1) := List.drop_eq_getElem_cons (by have := HLN.out; omega)
    have g1 : ¬ (t.size : Int) ≤ (q : Int) := by omega
    have g0 : (0 : Int) ≤ (q : Int) := by omega
    have g2 : (q : Int) < (t.size : Int) := by omega
    by_cases h41 : t[q] = 41
    · have F : Hid (rdZ (n + 1) t (p : Int) = some (.node a b c d, t.data.toList.drop (q + 1))) := by
        rw [Hid, RE.out, hDq, h41]; simp [rdE]
      have LQ : Hid (((t.size - (t.data.toList.drop (q + 1)).length : Nat) : Int) = (q : Int) + 1) := by rw [Hid, List.length_drop]; have := HLN.out; omega
      have hv : ((t[q].toNat : Nat) : Int) = 41 := by rw [h41]; rfl
      have hvb : (((t[q].toNat : Nat) : Int) == 41) = true := by rw [h41]; rfl
      have PN : Hid (Pnt W (.node a b c d) (n + 1) x y L L4) := by
        have e1 := HXY.out.1
        have e2 := HXY.out.2
        have k2 := K2.out
        have k3 := K3.out
        have k4 := K4.out
        rw [e1] at k2 k4
        rw [e2] at k3 k4
        exact K1.out.node k2 k3 k4
      clear hDq h41
      go_wp2_with fail
      go_ret
      exact RzRes.some F.out LQ.out HB4.out HL4.out HC4.out PN.out
    · have F : Hid (rdZ (n + 1) t (p : Int) = none) := by
        rw [Hid, RE.out, hDq]; simp [rdE, h41]
      have hvb : (((t[q].toNat : Nat) : Int) != 41) = true := by
        rw [bne_iff_ne]; intro e; exact h41 (UInt8.toNat_inj.1 (by rw [show (41 : UInt8).toNat = 41 from rfl]; omega))
      clear hDq h41
      go_wp2_with fail
      go_ret
      exact ⟨L4, by rw [F.out]; rfl, HB4.out, HL4.out, HC4.out, fun T r h => by rw [F.out] at h; cases h⟩
end Go.Proofs.Ytogefmkplkddoaa
