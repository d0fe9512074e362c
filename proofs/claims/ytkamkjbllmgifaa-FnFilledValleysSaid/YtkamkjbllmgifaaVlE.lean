/- Filled valleys, plain: the list of the filled picture; filling again; depths. -/
import Derived.Test.YtkamkjbllmgifaaVlD
import Derived.Test.YtkamkjbllmgifaaB10G
import Derived.Test.YtkamkjbllmgifaaWtrP
import Derived.Test.YtkamkjbllmgifaaDep
namespace Go.Proofs.Ytkamkjbllmgifaa
open Go.RowKit
open Vl

theorem vSt_eq {rows : List (List Int)} {W H : Nat} (hW : tabW rows = W) (hH : rows.length = H) : vSt rows = fold (nbN W H) (gF rows W) (ordS (gF rows W) (W * H) 100) := by subst hW; subst hH; rfl
theorem gF_gOw (O : Nat → Int) {W H i : Nat} (h : i < W * H) (hW : 0 < W) : gF (gO O W H) W i = O i := by
  obtain ⟨e, hm⟩ := pl_eq i hW
  have hr := pl_row h
  rw [e, gF_at hm (by rw [gO_length]; exact hr) (by rw [gO_w]; exact hm), gO_get]
/-- The filled picture's numbers. -/
def filF (rows : List (List Int)) (d : Int) : Nat → Int := fillTo (vSt rows) d (gF rows (tabW rows)) (vSt rows).n
theorem filF_bd {rows : List (List Int)} (hok : greyOk rows = true) (d : Int) : ∀ i, i < tabW rows * rows.length → gF rows (tabW rows) i ≤ filF rows d i ∧ 0 ≤ filF rows d i ∧ filF rows d i ≤ 99 := fun i hi => by
  have b := gF_bd hok (rfl : tabW rows = tabW rows) i hi
  have g := fillTo_ge (vSt rows) d (gF rows (tabW rows)) i (vSt rows).n
  have t := (fillTo_le (vSt rows) d (gF rows (tabW rows)) i 99 (vSt rows).n).2 ⟨b.2, fun v _ _ _ => (vSt_top rows v).2⟩
  unfold filF
  exact ⟨g, Int.le_trans b.1 g, t⟩
/-- What the law asks of a filled picture. -/
structure FilP (rows : List (List Int)) (d : Int) : Prop where
  ok : greyOk (fillR rows d) = true
  w : tabW (fillR rows d) = tabW rows
  h : (fillR rows d).length = rows.length
  list : lastR (vSt (fillR rows d)) (vSt (fillR rows d)).n = (lastR (vSt rows) (vSt rows).n).filter (deepRow d)
  again : fillR (fillR rows d) d = fillR rows d
theorem deep_skip {st : VS} {d : Int} {v : Nat} (h : st.dies v = -1 ∨ 0 ≤ st.dies v) : deepRow d (rowV st v) = skipV st d v := by
  have e : deepRow d (rowV st v) = (decide (st.dies v = -1) || decide (d ≤ st.dies v - st.born v)) := rfl
  rw [e, skipV]
  congr 1
  by_cases c : st.dies v = -1
  · rw [decide_eq_true c, decide_eq_true (by omega)]
  · rw [decide_eq_false c, decide_eq_false (by omega)]
theorem filP_of {rows : List (List Int)} (hok : greyOk rows = true) (d : Int) : FilP rows d := by
  obtain ⟨s1, s2, s3, s4⟩ := tab_sizes hok
  obtain ⟨W, hW⟩ : ∃ W, tabW rows = W := ⟨_, rfl⟩
  obtain ⟨H, hH⟩ : ∃ H, rows.length = H := ⟨_, rfl⟩
  have FB := filF_bd hok d
  have GB := gF_bd hok hW
  have I := vSt_inv hok
  have VB := vSt_vbd hok
  have e1 := vSt_eq hW hH
  have ER : fillR rows d = gO (filF rows d) W H := by rw [fillR, hW, hH, filF, hW]
  rw [hW, hH] at FB I
  rw [hW] at s3 s4
  rw [hH] at s1 s2 GB
  have ok2 : greyOk (gO (filF rows d) W H) = true := gO_ok s3 s4 s1 s2 fun i hi => (FB i hi).2
  have w2 : tabW (gO (filF rows d) W H) = W := tabW_gO _ s1
  have h2 : (gO (filF rows d) W H).length = H := gO_length _ _ _
  have I2 := vSt_inv ok2
  have VB2 := vSt_vbd ok2
  have GB2 := gF_bd ok2 w2
  have FG : ∀ i, i < W * H → gF (gO (filF rows d) W H) W i = filF rows d i := fun i hi => gF_gOw _ hi s3
  have e2 := vSt_eq w2 h2
  rw [w2, h2] at I2
  rw [h2] at GB2
  have sy := nbN_sym (W := W) (H := H) s3
  have EF : filF rows d = fillTo (vSt rows) d (gF rows W) (vSt rows).n := by rw [filF, hW]
  have E : ∀ L : Nat, L ≤ 99 → ∀ p, (∃ v, v < (vSt (gO (filF rows d) W H)).n ∧ True ∧ (vSt (gO (filF rows d) W H)).place v = p ∧ (vSt (gO (filF rows d) W H)).born v ≤ L ∧ ((vSt (gO (filF rows d) W H)).dies v = -1 ∨ (L : Int) < (vSt (gO (filF rows d) W H)).dies v)) ↔
      ∃ v, v < (vSt rows).n ∧ skipV (vSt rows) d v = true ∧ (vSt rows).place v = p ∧ (vSt rows).born v ≤ L ∧ ((vSt rows).dies v = -1 ∨ (L : Int) < (vSt rows).dies v) := by
    intro L hL p
    have a := val_lst sy GB2 L hL p
    have b := fill_lst sy GB d L hL p
    rw [← e2] at a
    rw [← e1, ← EF] at b
    rw [← b]
    have c1 : Lst (nbN W H) (gF (gO (filF rows d) W H) W) (W * H) L p ↔ Lst (nbN W H) (filF rows d) (W * H) L p := ⟨fun k => k.congr fun j hj => (FG j hj).symm, fun k => k.congr FG⟩
    rw [← c1, a]
    exact ⟨fun ⟨v, h1, _, h3⟩ => ⟨v, h1, h3⟩, fun ⟨v, h1, h3⟩ => ⟨v, h1, trivial, h3⟩⟩
  have T1 := row_tr VB2 VB E
  have T2 := row_tr VB VB2 fun L hL p => (E L hL p).symm
  have d01 : ∀ v, v < (vSt rows).n → (vSt rows).dies v = -1 ∨ 0 ≤ (vSt rows).dies v := fun v hv => by have := VB.bd v hv; omega
  have P1 := lastR_pw I
  have P2 := lastR_pw I2
  have LIST : lastR (vSt (gO (filF rows d) W H)) (vSt (gO (filF rows d) W H)).n = (lastR (vSt rows) (vSt rows).n).filter (deepRow d) := by
    refine sorted_ext (r := rowLt) (fun x h => by unfold rowLt at h; omega) (fun x y h k => by unfold rowLt at h k; omega) P2 (List.Pairwise.sublist List.filter_sublist P1) fun r => ?_
    rw [lastR_mem, List.mem_filter, lastR_mem]
    constructor
    · rintro ⟨v, h1, h2, rfl⟩
      obtain ⟨u, u1, u2, u3, u4⟩ := T1 v h1 trivial h2
      refine ⟨⟨u, u1, u3, u4.symm⟩, ?_⟩
      rw [← u4, deep_skip (d01 u u1)]
      exact u2
    · rintro ⟨⟨v, h1, h2, rfl⟩, h3⟩
      rw [deep_skip (d01 v h1)] at h3
      obtain ⟨u, u1, _, u3, u4⟩ := T2 v h1 h3 h2
      exact ⟨u, u1, u3, u4.symm⟩
  refine ⟨by rw [ER]; exact ok2, by rw [ER, w2, hW], by rw [ER, h2, hH], by rw [ER]; exact LIST, ?_⟩
  rw [ER]
  show gO (fillTo (vSt (gO (filF rows d) W H)) d (gF (gO (filF rows d) W H) (tabW (gO (filF rows d) W H))) (vSt (gO (filF rows d) W H)).n) (tabW (gO (filF rows d) W H)) (gO (filF rows d) W H).length = gO (filF rows d) W H
  rw [w2, h2]
  refine gO_congr fun q hq => ?_
  have ge := fillTo_ge (vSt (gO (filF rows d) W H)) d (gF (gO (filF rows d) W H) W) q (vSt (gO (filF rows d) W H)).n
  have le := (fillTo_le (vSt (gO (filF rows d) W H)) d (gF (gO (filF rows d) W H) W) q (gF (gO (filF rows d) W H) W q) (vSt (gO (filF rows d) W H)).n).2 ⟨Int.le_refl _, fun v hv hs hm => by
    have ns : ¬ ((vSt (gO (filF rows d) W H)).dies v < 0 ∨ d ≤ (vSt (gO (filF rows d) W H)).dies v - (vSt (gO (filF rows d) W H)).born v) := fun c => by rw [skip_iff.2 c] at hs; cases hs
    have dn : (vSt (gO (filF rows d) W H)).dies v ≠ -1 := by omega
    by_cases c : (vSt (gO (filF rows d) W H)).dies v = (vSt (gO (filF rows d) W H)).born v
    · obtain ⟨_, _, m3, _, _⟩ := (I2.dead v hv dn).2.2.2 q hm
      rw [c, I2.born v hv]
      rcases m3 with e | e
      · rw [e]; exact Int.le_refl _
      · unfold ltP at e; omega
    · obtain ⟨u, u1, u2, _, u4⟩ := T1 v hv trivial c
      rw [← deep_skip (d01 u u1), u4] at u2
      have : deepRow d (rowV (vSt (gO (filF rows d) W H)) v) = (decide ((vSt (gO (filF rows d) W H)).dies v = -1) || decide (d ≤ (vSt (gO (filF rows d) W H)).dies v - (vSt (gO (filF rows d) W H)).born v)) := rfl
      rw [this, decide_eq_false dn, decide_eq_false (by omega)] at u2
      cases u2⟩
  rw [← FG q hq]
  omega
/-- The least height at which a lesser number is reached. -/
theorem depTo_is {O G : Nat → Int} {a n : Nat} : ∀ k, k ≤ n → (depTo O G a k = -1 ∧ ∀ j, j < k → ¬ G j < G a) ∨ ∃ j, j < k ∧ G j < G a ∧ depTo O G a k = O j := by
  intro k
  induction k with
  | zero => intro _; exact .inl ⟨rfl, fun j hj => absurd hj (Nat.not_lt_zero _)⟩
  | succ k ih =>
    intro hk
    unfold depTo
    by_cases c : G k < G a ∧ (depTo O G a k < 0 ∨ O k < depTo O G a k)
    · rw [if_pos c]; exact .inr ⟨k, by omega, c.1, rfl⟩
    · rw [if_neg c]
      rcases ih (by omega) with ⟨h1, h2⟩ | ⟨j, h1, h2, h3⟩
      · refine .inl ⟨h1, fun j hj => ?_⟩
        rcases Nat.lt_succ_iff_lt_or_eq.1 hj with e | e
        · exact h2 j e
        · rw [e]; exact fun x => c ⟨x, .inl (by omega)⟩
      · exact .inr ⟨j, by omega, h2, h3⟩
theorem dep_of {rows : List (List Int)} (hok : greyOk rows = true) {v : Nat} (hv : v < (vSt rows).n) :
    depOk rows (((vSt rows).place v % tabW rows : Nat) : Int) (((vSt rows).place v / tabW rows : Nat) : Int) = decide ((vSt rows).born 0 < (vSt rows).born v) ∧
      ((vSt rows).born 0 < (vSt rows).born v → (vSt rows).dies v ≠ -1 → (vSt rows).dies v - (vSt rows).born v ≤ depV rows (((vSt rows).place v % tabW rows : Nat) : Int) (((vSt rows).place v / tabW rows : Nat) : Int)) := by
  obtain ⟨s1, s2, s3, s4⟩ := tab_sizes hok
  have GN : GreyN rows (tabW rows) rows.length (tabW rows * rows.length) := ⟨hok, rfl, rfl, rfl⟩
  have GB := gF_bd hok (rfl : tabW rows = tabW rows)
  have I := vSt_inv hok
  have VB := vSt_vbd hok
  have sy := nbN_sym (W := tabW rows) (H := rows.length) s3
  have V := fun (L : Nat) (hL : L ≤ 99) p => val_lst sy GB L hL p
  have e : fold (nbN (tabW rows) rows.length) (gF rows (tabW rows)) (ordS (gF rows (tabW rows)) (tabW rows * rows.length) 100) = vSt rows := rfl
  rw [e] at V
  have pN : (vSt rows).place v < tabW rows * rows.length := (vSt_bd hok v hv).1
  obtain ⟨O, hO⟩ := IsPass.ex (W := tabW rows) (n := tabW rows * rows.length) (G := gF rows (tabW rows)) (F := fun i => i = (vSt rows).place v) (fun i hi => (GB i hi).1)
  have DR := depRaw_of GN hO
  have mem : ∀ j, j < tabW rows * rows.length → j ∈ ordS (gF rows (tabW rows)) (tabW rows * rows.length) 100 := fun j hj => by
    rw [ordS_mem]; have := GB j hj; omega
  have least : ∀ j, j < tabW rows * rows.length → (vSt rows).born 0 ≤ gF rows (tabW rows) j := fun j hj => by
    obtain ⟨u, hu⟩ := I.has (mem j hj)
    obtain ⟨un, ud⟩ := I.own_lt hu
    have a := (I.alive u un ud).2 j hu
    have b1 : gF rows (tabW rows) ((vSt rows).place u) ≤ gF rows (tabW rows) j := by
      rcases a with a | a
      · rw [a]; exact Int.le_refl _
      · unfold ltP at a; omega
    have b2 : (vSt rows).born 0 ≤ gF rows (tabW rows) ((vSt rows).place u) := by
      rcases Nat.eq_zero_or_pos u with h | h
      · rw [I.born 0 (by omega), h]; exact Int.le_refl _
      · have o := I.ord 0 u h un
        rw [I.born 0 (by omega)]
        unfold ltP at o; omega
    omega
  have bv := I.born v hv
  have b0 := I.born 0 (by omega)
  have pe : pR rows (((vSt rows).place v % tabW rows : Nat) : Int) (((vSt rows).place v / tabW rows : Nat) : Int) = (vSt rows).place v := plc_spt
  have ie : inR rows (((vSt rows).place v % tabW rows : Nat) : Int) (((vSt rows).place v / tabW rows : Nat) : Int) = true := by
    unfold inR
    rw [hok, Bool.true_and]
    exact spt_in s3 pN
  have D := depTo_is (O := O) (G := gF rows (tabW rows)) (a := (vSt rows).place v) (n := tabW rows * rows.length) _ (Nat.le_refl _)
  rw [← DR] at D
  have ex : (∃ j, j < tabW rows * rows.length ∧ gF rows (tabW rows) j < gF rows (tabW rows) ((vSt rows).place v)) ↔ (vSt rows).born 0 < (vSt rows).born v := by
    constructor
    · rintro ⟨j, h1, h2⟩
      have := least j h1
      omega
    · intro h
      exact ⟨_, (vSt_bd hok 0 (by omega)).1, by omega⟩
  have ok1 : depOk rows (((vSt rows).place v % tabW rows : Nat) : Int) (((vSt rows).place v / tabW rows : Nat) : Int) = decide ((vSt rows).born 0 < (vSt rows).born v) := by
    unfold depOk
    rw [ie, Bool.true_and, pe]
    rcases D with ⟨h1, h2⟩ | ⟨j, h1, h2, h3⟩
    · rw [decide_eq_false (by omega), decide_eq_false (fun c => by
        obtain ⟨j, k1, k2⟩ := ex.2 c
        exact h2 j k1 k2)]
    · have := (hO.sound j h1).1
      rw [decide_eq_true (by omega), decide_eq_true (ex.1 ⟨j, h1, h2⟩)]
  refine ⟨ok1, fun hlt hd => ?_⟩
  unfold depV
  rw [ok1, decide_eq_true hlt, if_pos rfl, pe]
  rcases D with ⟨h1, h2⟩ | ⟨j, h1, h2, h3⟩
  · obtain ⟨j, k1, k2⟩ := ex.2 hlt
    exact absurd k2 (h2 j k1)
  · rw [h3, bv]
    have so := hO.sound j h1
    have bd := VB.bd v hv
    by_cases c : O j < 100
    · obtain ⟨L, hL⟩ := Int.eq_ofNat_of_zero_le so.1
      have cn := (cn_way s3).2 (so.2.2 c)
      rw [hL] at cn
      have lf := cn.left
      by_cases k : (L : Int) < (vSt rows).dies v
      · have ls := (V L (by omega) ((vSt rows).place v)).2 ⟨v, hv, rfl, by omega, .inr k⟩
        rcases ls.2.2 j cn with e | e
        · rw [e] at h2; omega
        · unfold ltP at e; omega
      · omega
    · omega
/-- The rows of the list, with the depths at their places. -/
theorem fv_rows {rows : List (List Int)} (hok : greyOk rows = true) : 0 < (lastR (vSt rows) (vSt rows).n).length ∧ (lastR (vSt rows) (vSt rows).n).length ≤ 256 ∧
    (∃ h : 0 < (lastR (vSt rows) (vSt rows).n).length, ∃ p D : Int, (lastR (vSt rows) (vSt rows).n)[0] = [(vSt rows).born 0, p, D]) ∧
    ∀ k (h : k < (lastR (vSt rows) (vSt rows).n).length), ∃ (b D : Int) (p : Nat), (lastR (vSt rows) (vSt rows).n)[k] = [b, (p : Int), D] ∧ p < tabW rows * rows.length ∧ 0 ≤ b ∧ b ≤ 99 ∧ D ≤ 99 ∧ -1 ≤ D ∧
      depOk rows ((p % tabW rows : Nat) : Int) ((p / tabW rows : Nat) : Int) = decide ((vSt rows).born 0 < b) ∧ ((vSt rows).born 0 < b → D ≠ -1 → D - b ≤ depV rows ((p % tabW rows : Nat) : Int) ((p / tabW rows : Nat) : Int)) := by
  have I := vSt_inv hok
  have VB := vSt_vbd hok
  have V := valP_of hok
  have n0 : 0 < (vSt rows).n := by
    have h1 := V.pos
    have h2 := lastR_len (vSt rows) (vSt rows).n
    omega
  have d0 : (vSt rows).dies 0 = -1 := by
    by_cases c : (vSt rows).dies 0 = -1
    · exact c
    · exact absurd (I.dead 0 n0 c).1 (Nat.lt_irrefl _)
  have b0 := (VB.bd 0 n0).1
  obtain ⟨R, hR, _⟩ := lastR_cons n0 (by omega : (vSt rows).dies 0 ≠ (vSt rows).born 0)
  refine ⟨V.pos, V.few, ⟨V.pos, ((vSt rows).place 0 : Nat), (vSt rows).dies 0, ?_⟩, fun k hk => ?_⟩
  · simp [hR, rowV]
  · obtain ⟨v, hv, _, e⟩ := lastR_mem.1 (List.getElem_mem hk)
    have b := VB.bd v hv
    have d := dep_of hok hv
    exact ⟨_, _, _, e, (vSt_bd hok v hv).1, b.1, b.2.1, b.2.2.1, by omega, d.1, d.2⟩
theorem filter_at {α : Type} {R : List α} {f : α → Bool} {k : Nat} (hk : k < R.length) (h : f R[k] = true) : (R.filter f)[((R.take k).filter f).length]? = some R[k] := by
  have e : R = R.take k ++ R[k] :: R.drop (k + 1) := by rw [List.getElem_cons_drop, List.take_append_drop]
  have e2 : R.filter f = (R.take k).filter f ++ R[k] :: (R.drop (k + 1)).filter f := by
    conv => lhs; rw [e]
    rw [List.filter_append, List.filter_cons, if_pos h]
  rw [e2, List.getElem?_append_right (Nat.le_refl _), Nat.sub_self]
  rfl
end Go.Proofs.Ytkamkjbllmgifaa
