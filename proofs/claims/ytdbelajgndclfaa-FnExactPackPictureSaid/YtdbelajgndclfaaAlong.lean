/- Pictures along curves: the runs of a list of colours; the program's. -/
import Derived.Test.YtdbelajgndclfaaCvE
import Derived.Test.YtdbelajgndclfaaImgOf
import Derived.Test.YtdbelajgndclfaaSMake
namespace Go.Proofs.Ytdbelajgndclfaa
open Go.RowKit

/-- One more colour. -/
def incL (l : List Int) : List Int := l.set (l.length - 1) (l.getD (l.length - 1) 0 + 1)
def colS (s : List Int × Bool) (b : Bool) : List Int × Bool := if b = s.2 then (incL s.1, b) else (incL (s.1 ++ [0]), b)
def colTo (bs : List Bool) (k : Nat) : List Int × Bool := (bs.take k).foldl colS ([0], false)
def colR (bs : List Bool) : List Int := (colTo bs bs.length).1
theorem colTo_zero (bs : List Bool) : colTo bs 0 = ([0], false) := by simp [colTo]
theorem colTo_succ {bs : List Bool} {k : Nat} (h : k < bs.length) : colTo bs (k + 1) = colS (colTo bs k) bs[k] := by
  unfold colTo
  rw [List.take_add_one, List.getElem?_eq_getElem h, List.foldl_append]
  rfl
theorem incL_length (l : List Int) : (incL l).length = l.length := by simp [incL]
theorem colS_length (s : List Int × Bool) (b : Bool) : (colS s b).1.length = if b = s.2 then s.1.length else s.1.length + 1 := by
  unfold colS; split <;> simp [incL_length]
/-- The runs are few and short. -/
theorem colTo_bd (bs : List Bool) : ∀ k, k ≤ bs.length → 0 < (colTo bs k).1.length ∧ (colTo bs k).1.length ≤ k + 1 ∧ ∀ i (h : i < (colTo bs k).1.length), 0 ≤ (colTo bs k).1[i] ∧ (colTo bs k).1[i] ≤ k := by
  intro k
  induction k with
  | zero => intro _; rw [colTo_zero]; simp
  | succ k ih =>
    intro h
    obtain ⟨h1, h2, h3⟩ := ih (by omega)
    rw [colTo_succ (by omega)]
    generalize colTo bs k = s at *
    have inc : ∀ (l : List Int), 0 < l.length → (∀ i (h : i < l.length), 0 ≤ l[i] ∧ l[i] ≤ (k : Int)) → ∀ i (h : i < (incL l).length), 0 ≤ (incL l)[i] ∧ (incL l)[i] ≤ ((k + 1 : Nat) : Int) := by
      intro l hl hb i hi
      rw [incL_length] at hi
      simp only [incL, List.getElem_set]
      split
      · rename_i e
        have := hb (l.length - 1) (by omega)
        rw [List.getD_eq_getElem?_getD, List.getElem?_eq_getElem (by omega)]
        simp only [Option.getD_some]
        omega
      · have := hb i hi; omega
    unfold colS
    split
    · refine ⟨by simpa [incL_length] using h1, by simp only [incL_length]; omega, inc _ h1 h3⟩
    · refine ⟨by simp [incL_length], by simp [incL_length]; omega, inc _ (by simp) (fun i hi => ?_)⟩
      simp only [List.length_append, List.length_cons, List.length_nil] at hi
      by_cases e : i < s.1.length
      · rw [List.getElem_append_left e]; exact h3 i e
      · rw [List.getElem_append_right (by omega)]; simp

def ordOf (n : Int) : Int := if n = 1 then 0 else if n = 2 then 1 else if n = 4 then 2 else if n = 8 then 3 else if n = 16 then 4 else -1
theorem ordOf_side {n : Int} (h : 0 ≤ ordOf n) : 0 ≤ ordOf n ∧ ordOf n ≤ 4 ∧ side (ordOf n) = n := by
  unfold ordOf at *
  split <;> rename_i h1
  · subst h1; decide
  split <;> rename_i h1
  · subst h1; decide
  split <;> rename_i h1
  · subst h1; decide
  split <;> rename_i h1
  · subst h1; decide
  split <;> rename_i h1
  · subst h1; decide
  · simp_all
set_option maxRecDepth 100000 in
set_option maxHeartbeats 1000000 in
theorem sliceIndex5_any (a b c d f n : Int) (g : Nat) (w : World) (h : Blk w g 2 #[.int .i64 a, .int .i64 b, .int .i64 c, .int .i64 d, .int .i64 f]) :
    Calls Try.prog 137 #[.slice (some ⟨g, 0, none⟩) 5 5, .int .i64 n] w fun e w' => e = .returned (.int .i64 (if n = a then 0 else if n = b then 1 else if n = c then 2 else if n = d then 3 else if n = f then 4 else -1)) ∧ w = w' := by
  have IH : Hid (∀ i : Nat, i < 5 → w.cell? ⟨g, i, none⟩ = some (.int .i64 ([a, b, c, d, f].getD i 0))) := by
    intro i hi
    have := h.cell i
    have hh : i = 0 ∨ i = 1 ∨ i = 2 ∨ i = 3 ∨ i = 4 := by omega
    rcases hh with e | e | e | e | e <;> subst e <;> simpa using this
  have R : Hid (∀ i : Nat, i < 5 → (∀ j, j < i → n ≠ [a, b, c, d, f].getD j 0) → n = [a, b, c, d, f].getD i 0 → (if n = a then 0 else if n = b then 1 else if n = c then 2 else if n = d then 3 else if n = f then 4 else -1) = (i : Int)) := by
    intro i hi hno he
    have n0 := hno 0
    have n1 := hno 1
    have n2 := hno 2
    have n3 := hno 3
    have hh : i = 0 ∨ i = 1 ∨ i = 2 ∨ i = 3 ∨ i = 4 := by omega
    rcases hh with e | e | e | e | e <;> subst e <;> simp at * <;> simp_all
  have N : Hid ((∀ j, j < 5 → n ≠ [a, b, c, d, f].getD j 0) → (if n = a then 0 else if n = b then 1 else if n = c then 2 else if n = d then 3 else if n = f then 4 else -1) = (-1 : Int)) := by
    intro hno
    have n0 := hno 0 (by omega)
    have n1 := hno 1 (by omega)
    have n2 := hno 2 (by omega)
    have n3 := hno 3 (by omega)
    have n4 := hno 4 (by omega)
    simp at *
    simp [n0, n1, n2, n3, n4]
  clear h
  generalize (if n = a then 0 else if n = b then 1 else if n = c then 2 else if n = d then 3 else if n = f then 4 else (-1 : Int)) = r at *
  generalize [a, b, c, d, f] = L at *
  go_enter Try.func137, Try.ntmps137
  go_wp2_with fail
  go_loop [5, 8] (fun _ i => ∃ k : Nat, k ≤ 5 ∧ i = .int .i64 k ∧ Hid (∀ j, j < k → n ≠ L.getD j 0)) (fun _ i => 5 - (intOf i).toNat)
  case atStart => exact ⟨0, by omega, rfl, fun j h => absurd h (Nat.not_lt_zero _)⟩
  case round =>
    obtain ⟨k, hk, rfl, hno⟩ := hrel
    by_cases hlt : k < 5
    · have c1 := IH.out k hlt
      have RK := Lib.hid (R.out k hlt hno)
      obtain ⟨v, hv⟩ : ∃ v, L.getD k 0 = v := ⟨_, rfl⟩
      rw [hv] at c1 RK
      have HV := Lib.hid hv
      clear hv
      have i0 : (0 : Int) ≤ (k : Int) := by omega
      have i1 : (k : Int) < 5 := by omega
      by_cases he : n = v
      · have E := Lib.hid (RK.out he)
        have t0 : (n == v) = true := by simp [he]
        clear he
        go_wp2_with fail
        go_ret
        exact ⟨ret_int E.out.symm, rfl⟩
      · have t0 : (n == v) = false := by simp [he]
        have HE := Lib.hid he
        clear he
        go_wp2_with fail
        go_round
        case rel => exact ⟨k + 1, by omega, by go_num, fun j hj => (by
          rcases Nat.lt_succ_iff_lt_or_eq.1 hj with h | h
          · exact hno j h
          · rw [h, HV.out]; exact HE.out)⟩
        case measure => simp [intOf]; omega
    · obtain rfl : k = 5 := by omega
      have E := Lib.hid (N.out hno)
      clear hno
      go_wp2_with fail
      go_ret
      exact ⟨ret_int E.out.symm, rfl⟩
theorem orderOf_any (n : Int) (w : World) : Calls Try.prog 107 #[.int .i64 n] w fun e w' => e = .returned (.int .i64 (ordOf n)) ∧ Below w.heap.size w w' := by
  have S := Lib.hid (sliceIndex5_any 1 2 4 8 16 n w.heap.size _ (Blk.made w 2 #[.int .i64 1, .int .i64 2, .int .i64 4, .int .i64 8, .int .i64 16]))
  have E : Hid ((if n = 1 then 0 else if n = 2 then 1 else if n = 4 then 2 else if n = 8 then 3 else if n = 16 then 4 else (-1 : Int)) = ordOf n) := rfl
  rw [E.out] at S
  clear E
  go_enter Try.func107, Try.ntmps107
  go_wp2_with fail
  refine S.out.mono ?_
  rintro e w' ⟨rfl, rfl⟩
  go_wp2_with fail
  go_ret
  exact ⟨rfl, Ext.more (Ext.refl _) _⟩

/-- The colours along a curve. -/
def alB (L : List Bool) (W H : Nat) (V : List (Int × Int)) : List Bool := V.map fun p => bit L W H p.1 p.2
theorem alB_length (L : List Bool) (W H : Nat) (V : List (Int × Int)) : (alB L W H V).length = V.length := by simp [alB]
set_option maxRecDepth 100000 in
set_option maxHeartbeats 1000000 in
theorem along_any (p g W H : Nat) (L : List Bool) (c o : Int) (w : World) (h : Img w p g W H L) (hW : W ≤ 1000) (hH : H ≤ 1000) (hc0 : 0 ≤ c) (hc3 : c ≤ 3) (h0 : 0 ≤ o) (h4 : o ≤ 4) (s : Nat) (hs : side o = s) :
    Calls Try.prog 110 #[.pointer (some ⟨p, 0, none⟩), .int .i64 c, .int .i64 o] w fun e w' => ∃ A cc, e = .returned (.slice A (s * s) cc) ∧ w'.ownsRow w.heap.size 4 1 (.slice A (s * s) cc) (s * s) (bools (alB L W H (visTo c o s s))) ∧ Below w.heap.size w w' := by
  have VH := Lib.hid (fun V => visits_any c o V hc0 hc3 h0 h4 s hs)
  have hS2 := side_le h0 h4
  rw [hs] at hS2
  have hss : s * s ≤ 256 := Nat.le_trans (Nat.mul_le_mul (show s ≤ 16 by omega) (show s ≤ 16 by omega)) (by decide)
  have hvl := visTo_length c o s s
  have IH := Lib.hid (fun V (hb : Below w.heap.size w V) => h.ext hb)
  clear h hs
  generalize visTo c o s s = vis at *
  generalize s * s = n at *
  have HL := Lib.hid hvl
  clear hvl
  have AL : Hid ((alB L W H vis).length = n ∧ ∀ k (hk : k < vis.length), (alB L W H vis).take (k + 1) = (alB L W H vis).take k ++ [bit L W H vis[k].1 vis[k].2]) := by
    refine ⟨by simp [alB, HL.out], fun k hk => ?_⟩
    rw [List.take_add_one, List.getElem?_eq_getElem (by simpa [alB] using hk)]
    simp [alB]
  generalize alB L W H vis = bs at *
  have hrow0 := World.ownsRow_lit (e := 4) (size := 1) w #[] 0 (Nat.le_refl _) (by decide) rfl
  have BM : Below w.heap.size w (w.alloc (.cells #[] 4)) := Ext.more (Ext.refl _) _
  have hz0 : (w.alloc (.cells #[] 4)).heap.size = w.heap.size + 1 := by simp
  go_enter Try.func110, Try.ntmps110
  go_wp2_with fail
  refine (VH.out _).mono ?_
  rintro e w1 ⟨rfl, hV, hb1⟩
  have B1 := Ext.then_ BM hb1
  have O1 := own_ext hb1 hrow0
  rw [hz0] at hV
  have HV0 := Lib.hid hV
  clear hV hb1 hrow0 hz0 BM
  go_wp2_with fail
  go_loopw [7, 9, 15] (fun v _ i wr => ∃ (k gb cb : Nat), k ≤ n ∧ i = .int .i64 k ∧ v = .slice (some ⟨gb, 0, none⟩) k cb ∧ wr.ownsRow w.heap.size 4 1 (.slice (some ⟨gb, 0, none⟩) k cb) k (bools (bs.take k)) ∧ Blk wr (w.heap.size + 1) 114 (spC vis) ∧ Below w.heap.size w wr) (fun _ _ i _ => n - (intOf i).toNat)
  case atStart => exact ⟨0, _, 0, Nat.zero_le _, rfl, rfl, by simpa [bools] using O1, HV0.out, B1⟩
  case round =>
    obtain ⟨k, gb, cb, hk, rfl, rfl, hown, hV, hb⟩ := hrel
    clear O1 B1 HV0
    by_cases hlt : k < n
    · have hkv : k < vis.length := by rw [HL.out]; exact hlt
      have hS := hV.spots.2 k hkv
      have AK := Lib.hid (AL.out.2 k hkv)
      have hvlt := hV.lt
      have GK := Lib.hid (fun V (hb2 : Below w.heap.size w V) => get_any p g W H L vis[k].1 vis[k].2 V (IH.out V hb2) hW hH)
      obtain ⟨s1, s2⟩ := hS
      generalize vis[k] = q at *
      obtain ⟨qx, qy⟩ := q
      simp only at s1 s2 GK AK
      generalize bit L W H qx qy = bb at *
      have i0 : (0 : Int) ≤ (k : Int) := by omega
      have i1 : (k : Int) < (n : Int) := by omega
      have HVB := Lib.hid hV
      have hblt := (hown.lt gb rfl).2
      clear hV
      go_wp2_with fail
      refine (GK.out _ (Ext.more hb _)).mono ?_
      rintro e w2 ⟨rfl, nd, rfl⟩
      have O2 : (World.drewN (wr.alloc (.cells #[.int .i64 qx, .int .i64 qy] 114)) nd).ownsRow w.heap.size 4 1 (.slice (some ⟨gb, 0, none⟩) k cb) k (bools (bs.take k)) := hown.alloc _
      have V2 : Blk (World.drewN (wr.alloc (.cells #[.int .i64 qx, .int .i64 qy] 114)) nd) (w.heap.size + 1) 114 (spC vis) := HVB.out.more _
      have B2 : Below w.heap.size w (World.drewN (wr.alloc (.cells #[.int .i64 qx, .int .i64 qy] 114)) nd) := Ext.drawN (Ext.more hb _) _
      have hne := own_blk_ne O2 V2 (by decide)
      have hzs := B2.size
      have HX := Lib.hid (And.intro V2 (And.intro B2 hne))
      clear V2 B2 hne hown hb HVB
      generalize World.drewN (wr.alloc (.cells #[.int .i64 qx, .int .i64 qy] 114)) nd = w2 at *
      go_wp2_with (at_builtin; refine wpList_app boolT (by rfl) _ _ (by rfl) w.heap.size (.slice (some ⟨gb, 0, none⟩) k cb) k (bools (bs.take k)) (by rfl) (O2.alloc _) w2.heap.size #[.bool bb] (by rfl) (heap_alloc_new _ _) rfl (by simp [Value.oneCell']) (by omega) (by simp; omega) ?_; intro g3 cap3 w3 hown3 hgrow3 hat3 hlt3)
      have hown4 : w3.ownsRow w.heap.size 4 1 (.slice (some ⟨g3, 0, none⟩) (k + 1) cap3) (k + 1) (bools (bs.take (k + 1))) := by
        rw [AK.out]; simpa [bools] using hown3
      have V3 : Blk w3 (w.heap.size + 1) 114 (spC vis) := (HX.out.1.more _).by_grown hgrow3 (fun e => HX.out.2.2 e.symm)
      have B3 : Below w.heap.size w w3 := (HX.out.2.1.alloc hzs _).grown hgrow3 (by simp; omega) (fun z hz => (O2.lt z hz).1)
      clear hown3 hgrow3 hat3 O2
      go_wp2_with fail
      go_roundw
      case rel => exact ⟨k + 1, g3, cap3, by omega, by go_num, rfl, hown4, V3, B3⟩
      case measure => simp [intOf]; omega
    · obtain rfl : k = n := by omega
      have E : Hid (bs.take k = bs) := List.take_of_length_le (by rw [AL.out.1]; exact Nat.le_refl _)
      go_wp2_with fail
      go_ret
      exact ⟨_, _, rfl, by rw [E.out] at hown; exact hown, hb⟩

theorem ints_inc {l : List Int} (_h : 0 < l.length) : (ints l).set (l.length - 1) (.int .i64 (l.getD (l.length - 1) 0 + 1)) = ints (incL l) := by
  simp [ints, incL, List.map_set]
theorem ints_last {l : List Int} (h : 0 < l.length) : (ints l)[l.length - 1]? = some (.int .i64 (l.getD (l.length - 1) 0)) := by
  simp [ints, List.getD_eq_getElem?_getD, List.getElem?_eq_getElem (show l.length - 1 < l.length by omega)]
set_option maxRecDepth 100000 in
set_option maxHeartbeats 1000000 in
theorem colours_any (A : Option Addr) (cc n : Nat) (bs : List Bool) (w : World) (h : Rd w A (bools bs)) (hl : bs.length = n) (hn : n ≤ 1000000) :
    Calls Try.prog 109 #[.slice A n cc] w fun e w' => ∃ A' c', e = .returned (.slice A' (colR bs).length c') ∧ w'.ownsRow w.heap.size 2 1 (.slice A' (colR bs).length c') (colR bs).length (ints (colR bs)) ∧ Below w.heap.size w w' := by
  have RH := Lib.hid (fun V (hb : Below w.heap.size w V) => h.ext hb)
  have HL := Lib.hid hl
  have CR : Hid (colR bs = (colTo bs n).1) := by rw [Hid, ← hl]; rfl
  have CB := Lib.hid (fun k (h : k ≤ n) => colTo_bd bs k (by omega))
  have CS := Lib.hid (fun k (h : k < bs.length) => colTo_succ h)
  have C0 := Lib.hid (colTo_zero bs)
  clear h hl
  rw [CR.out]
  have hrow0 := World.ownsRow_lit (e := 2) (size := 1) w #[.int .i64 0] 1 (Nat.le_refl _) (by decide) rfl
  have BM : Below w.heap.size w (w.alloc (.cells #[.int .i64 0] 2)) := Ext.more (Ext.refl _) _
  go_enter Try.func109, Try.ntmps109
  go_wp2_with fail
  generalize w.alloc (.cells #[.int .i64 0] 2) = w0 at *
  go_loopw [3, 4, 6, 10] (fun v f _ i wr => ∃ (k gb cb : Nat), k ≤ n ∧ i = .int .i64 k ∧ v = .slice (some ⟨gb, 0, none⟩) (colTo bs k).1.length cb ∧ f = .bool (colTo bs k).2 ∧ wr.ownsRow w.heap.size 2 1 (.slice (some ⟨gb, 0, none⟩) (colTo bs k).1.length cb) (colTo bs k).1.length (ints (colTo bs k).1) ∧ Below w.heap.size w wr) (fun _ _ _ i _ => n - (intOf i).toNat)
  case atStart => exact ⟨0, w.heap.size, 1, Nat.zero_le _, rfl, by rw [C0.out]; rfl, by rw [C0.out], by rw [C0.out]; exact hrow0, BM⟩
  case round =>
    obtain ⟨k, gb, cb, hk, rfl, rfl, rfl, hown, hb⟩ := hrel
    clear hrow0 BM
    by_cases hlt : k < n
    · have hkb : k < bs.length := by rw [HL.out]; exact hlt
      obtain ⟨g, rfl, hg, hc⟩ := RH.out wr hb (by simp [bools]; omega)
      have c1 := hc k (by simpa [bools] using hkb)
      have e1 : (bools bs)[k]'(by simpa [bools] using hkb) = .bool bs[k] := by simp [bools]
      rw [e1] at c1
      obtain ⟨b1, b2, b3⟩ := CB.out k (by omega)
      have S := Lib.hid (CS.out k hkb)
      clear hc e1
      generalize bs[k] = b at *
      obtain ⟨st, hst⟩ : ∃ st, colTo bs k = st := ⟨_, rfl⟩
      rw [hst] at hown b1 b2 b3 S ⊢
      clear hst
      obtain ⟨l, now⟩ := st
      simp only at hown b1 b2 b3 ⊢
      have hgl := (hown.lt gb rfl).1
      have hgl2 := (hown.lt gb rfl).2
      have i0 : (0 : Int) ≤ (k : Int) := by omega
      have i1 : (k : Int) < (n : Int) := by omega
      have lastb : ∀ (l : List Int), 0 < l.length → (∀ i (h : i < l.length), 0 ≤ l[i] ∧ l[i] ≤ (k : Int)) → 0 ≤ l.getD (l.length - 1) 0 ∧ l.getD (l.length - 1) 0 ≤ (k : Int) := by
        intro l h1 h2
        rw [List.getD_eq_getElem?_getD, List.getElem?_eq_getElem (by omega)]
        exact h2 _ _
      by_cases he : b = now
      · subst he
        have E : Hid (colTo bs (k + 1) = (incL l, b)) := by rw [Hid, S.out]; simp [colS]
        obtain ⟨m, hm⟩ : ∃ m, l.length = m := ⟨_, rfl⟩
        have lb := lastb l b1 b3
        have k1 := (hown.cellAt (l.length - 1) (by omega)).trans (ints_last b1)
        have f1 := hown.frozenAt (l.length - 1)
        have st := hown.stored (l.length - 1) (.int .i64 (l.getD (l.length - 1) 0 + 1))
        have hset := ints_inc b1
        rw [hset] at st
        rw [hm] at k1 f1 lb hown b1 b2 st ⊢
        have LI : Hid ((incL l).length = m) := by rw [Hid, incL_length, hm]
        have HST := Lib.hid st
        generalize l.getD (m - 1) 0 = lv at *
        have t1 : (b != b) = false := by simp
        have j0 : (0 : Int) ≤ (m : Int) - 1 := by omega
        have j1 : (m : Int) - 1 < (m : Int) := by omega
        have j2 : ((m : Int) - 1).toNat = m - 1 := by omega
        clear hset st hown hm b3 lastb S
        go_wp2_with fail
        go_roundw
        case rel => exact ⟨k + 1, gb, cb, by omega, by go_num, by rw [E.out]; simp only [LI.out], by rw [E.out], by rw [E.out]; simp only [LI.out]; exact HST.out.1, hb.setCell (p := ⟨gb, _, none⟩) hgl _⟩
        case measure => simp [intOf]; omega
      · have E : Hid (colTo bs (k + 1) = (incL (l ++ [0]), b)) := by rw [Hid, S.out]; simp [colS, he]
        obtain ⟨m, hm⟩ : ∃ m, l.length = m := ⟨_, rfl⟩
        have hm1 : (l ++ [0]).length = m + 1 := by simp [hm]
        have il := ints_last (l := l ++ [0]) (by omega)
        have hset := ints_inc (l := l ++ [0]) (by omega)
        have g0 : (l ++ [0]).getD m 0 = (0 : Int) := by rw [← hm]; simp [List.getD_eq_getElem?_getD]
        rw [hm1, Nat.add_sub_cancel, g0] at il hset
        have LI : Hid ((incL (l ++ [0])).length = m + 1) := by rw [Hid, incL_length, hm1]
        have EA : Hid (ints (l ++ [0]) = ints l ++ [.int .i64 0]) := by simp [Hid, ints]
        rw [hm] at hown b1 b2 ⊢
        obtain rfl : now = !b := by cases b <;> cases now <;> simp_all
        have IL := Lib.hid (And.intro il hset)
        generalize incL (l ++ [0]) = l2 at *
        clear hm hm1 il hset g0 lastb S b3 he
        cases b
        all_goals
          go_wp2_with (at_builtin; refine wpList_app intT (by rfl) _ _ (by rfl) w.heap.size (.slice (some ⟨gb, 0, none⟩) m cb) m (ints l) (by rfl) (hown.alloc _) wr.heap.size #[.int .i64 0] (by rfl) (heap_alloc_new _ _) rfl (by simp [Value.oneCell']) (by omega) (by simp; omega) ?_; intro g3 cap3 w3 hown3 hgrow3 hat3 hlt3; have hown4 : w3.ownsRow w.heap.size 2 1 (.slice (some ⟨g3, 0, none⟩) (m + 1) cap3) (m + 1) (ints (l ++ [0])) := (by rw [EA.out]; simpa using hown3); have B3 : Below w.heap.size w w3 := (hb.alloc hb.size _).grown hgrow3 (by simp; omega) (fun z hz => (hown.lt z hz).1); have k1 := (hown4.cellAt m (by omega)).trans IL.out.1; have f1 := hown4.frozenAt m; have st := hown4.stored m (.int .i64 (0 + 1)); rw [IL.out.2] at st; have HST := Lib.hid st; have g3l := (hown4.lt g3 rfl).1; clear st hown3 hown4 hgrow3 hat3)
          go_roundw
          case rel => exact ⟨k + 1, g3, cap3, by omega, by go_num, by rw [E.out]; simp only [LI.out], by rw [E.out], by rw [E.out]; simp only [LI.out]; exact HST.out.1, B3.setCell (p := ⟨g3, _, none⟩) g3l _⟩
          case measure => simp [intOf]; omega
    · obtain rfl : k = n := by omega
      go_wp2_with fail
      go_ret
      exact ⟨_, _, rfl, hown, hb⟩
end Go.Proofs.Ytdbelajgndclfaa
