/- Journals recovered: the reference's. -/
import Derived.Test.YtgbciimfpahekaaDoorJnS
namespace Go.Proofs.YtgbciimfpahekaaDoor
open Go.RowKit

def rcB (t : ByteArray) : Bool := decide (t.size ≤ 6000)
def rcR (t : ByteArray) : List ByteArray := if rcB t then (rcv 0 (bl t)).1.map mkB else []
def rcN (t : ByteArray) : Nat := if rcB t then (rcv 0 (bl t)).2 else 0
/-- A call has returned what is recovered of a text. -/
def RcRes (w : World) (t : ByteArray) (e : Ending) (w' : World) : Prop :=
  ∃ A c, e = .returned (.tuple #[.slice A (rcR t).length c, .int .i64 (rcN t), .bool (rcB t)]) ∧ w'.ownsRow w.heap.size 9 1 (.slice A (rcR t).length c) (rcR t).length (strs (rcR t)) ∧ Below w.heap.size w w'
theorem RcRes.no {w w' : World} {t : ByteArray} (h : 6000 < t.size) (hb : Below w.heap.size w w') : RcRes w t (.returned (.tuple #[.slice none 0 0, .int .i64 0, .bool false])) w' := by
  have e : rcB t = false := by rw [rcB, decide_eq_false_iff_not]; omega
  have e1 : rcR t = [] := by rw [rcR, e]; rfl
  have e2 : rcN t = 0 := by rw [rcN, e]; rfl
  unfold RcRes
  rw [e, e1, e2]
  exact ⟨none, 0, rfl, World.ownsRow_nil _ _ _ _, hb⟩
theorem RcRes.yes {w w' : World} {t : ByteArray} {o : List (List UInt8)} {p n g c : Nat} (h : t.size ≤ 6000) (hr : rcv 0 (bl t) = (o, p)) (hn : o.length = n)
    (ho : w'.ownsRow w.heap.size 9 1 (.slice (some ⟨g, 0, none⟩) n c) n (txs o)) (hb : Below w.heap.size w w') : RcRes w t (.returned (.tuple #[.slice (some ⟨g, 0, none⟩) n c, .int .i64 p, .bool true])) w' := by
  subst hn
  have e : rcB t = true := by rw [rcB, decide_eq_true_iff]; exact h
  have e1 : rcR t = o.map mkB := by rw [rcR, e, hr]; rfl
  have e2 : rcN t = p := by rw [rcN, e, hr]; rfl
  have e3 : (o.map mkB).length = o.length := List.length_map _
  unfold RcRes
  rw [e, e1, e2, e3]
  exact ⟨some ⟨g, 0, none⟩, c, rfl, ho, hb⟩
/-- How far the recovering of t has come. -/
def RcI (t : ByteArray) (p ck : Nat) (o : List (List UInt8)) : Prop :=
  p ≤ t.size ∧ ck < 65129 ∧ rcv 0 (bl t) = (o ++ (rcv ck ((bl t).drop p)).1, p + (rcv ck ((bl t).drop p)).2)
section
variable {t : ByteArray} {p ck : Nat} {o : List (List UInt8)}
theorem RcI.start : RcI t 0 0 [] := ⟨Nat.zero_le _, by decide, by simp⟩
theorem RcI.stop (h : RcI t p ck o) (hr : rcv ck ((bl t).drop p) = ([], 0)) : rcv 0 (bl t) = (o, p) := by
  have := h.2.2
  rw [hr] at this
  simpa using this
theorem RcI.next (h : RcI t p ck o) {x : List UInt8} (hl : fnd 10 ((bl t).drop p) < ((bl t).drop p).length) (hx : ((bl t).drop p).take (fnd 10 ((bl t).drop p)) = x) (h2 : fnd 32 x < x.length)
    (h3 : x.take (fnd 32 x) = Lib.decDigits (chk ck (x.drop (fnd 32 x + 1)))) : RcI t (p + (x.length + 1)) (chk ck (x.drop (fnd 32 x + 1))) (o ++ [x.drop (fnd 32 x + 1)]) := by
  have hxl : x.length = fnd 10 ((bl t).drop p) := by rw [← hx, List.length_take]; omega
  have hdl : ((bl t).drop p).length = t.size - p := by rw [List.length_drop, bl_len]
  have hp := h.1
  refine ⟨by omega, chk_lt _ _ h.2.1, ?_⟩
  rw [h.2.2, rcv_good hx hl h2 h3, List.drop_drop, hxl]
  simp
  omega
end
theorem tl_eq {a b : ByteArray} (h : a = b) : (a.toList == b.toList) = true := by rw [h]; simp
theorem tl_ne {a b : ByteArray} (h : a ≠ b) : (a.toList == b.toList) = false := by
  rw [ByteArray.toList_eq, ByteArray.toList_eq, beq_eq_false_iff_ne]
  intro e
  exact h (ByteArray.ext (Array.ext' e))
set_option maxRecDepth 100000 in
set_option maxHeartbeats 2000000 in
theorem recoverS_any (t : ByteArray) (w : World) (ht : t.size ≤ 1000000000) :
    Calls Tryd.prog 11 #[.string t] w (RcRes w t) := by
  by_cases hbig : 6000 < t.size
  · have t0 : (6000 : Int) < (t.size : Int) := by omega
    have F := Lib.hid (RcRes.no (w := w) hbig (Ext.refl w))
    clear hbig
    go_enter Tryd.func11, Tryd.ntmps11
    go_wp2_with fail
    go_ret3
    exact F.out
  have t0 : ¬ (6000 : Int) < (t.size : Int) := by omega
  have hs : t.size ≤ 6000 := by omega
  have RES : Hid (∀ V (o : List (List UInt8)) (p n g c : Nat), rcv 0 (bl t) = (o, p) → o.length = n → V.ownsRow w.heap.size 9 1 (.slice (some ⟨g, 0, none⟩) n c) n (txs o) → Below w.heap.size w V → RcRes w t (.returned (.tuple #[.slice (some ⟨g, 0, none⟩) n c, .int .i64 p, .bool true])) V) :=
    fun V o p n g c h1 h2 h3 h4 => RcRes.yes hs h1 h2 h3 h4
  obtain ⟨N, hN⟩ : ∃ N, (lnL (bl t)).length = N := ⟨_, rfl⟩
  have HN := Lib.hid hN
  obtain ⟨lastT, hlast⟩ : ∃ l, mkB ((cutL 10 (bl t)).getLast (cutL_ne 10 (bl t))) = l := ⟨_, rfl⟩
  have LN : Hid (Calls Tryd.prog 26 #[.string t] w fun e w' => ∃ g c, e = .returned (.tuple #[.slice (some ⟨g, 0, none⟩) N c, .string lastT]) ∧
      g < w'.heap.size ∧ (∀ i (h : i < N), w'.cell? ⟨g, i, none⟩ = some (.string (mkB ((lnL (bl t))[i]'(by rw [HN.out]; exact h))))) ∧ Below w.heap.size w w') :=
    (linesS_any t w (by omega)).mono fun _ _ ⟨g, c, h1, h2, h3, h4⟩ => ⟨g, c, by rw [h1, hN, hlast], h2, fun i h => h3 i (by rw [hN]; exact h), h4⟩
  have hN2 : N ≤ 6001 := by
    have h1 := cutL_len 10 t.size (bl t) (Nat.le_of_eq (bl_len t))
    have h2 : (lnL (bl t)).length = (cutL 10 (bl t)).length - 1 := by unfold lnL; rw [List.length_dropLast]
    omega
  clear hN hbig hlast
  go_enter Tryd.func11, Tryd.ntmps11
  go_wp2_with fail
  refine (LN.out).mono ?_
  rintro e w1 ⟨g, c, rfl, gl, hc, hb1⟩
  obtain ⟨w2, hw2⟩ : ∃ w2, w1.alloc (.cells #[] 9) = w2 := ⟨_, rfl⟩
  have hb12 : Below w1.heap.size w1 w2 := by rw [← hw2]; exact Ext.more (Ext.refl _) _
  have O2 : w2.ownsRow w1.heap.size 9 1 (.slice (some ⟨w1.heap.size, 0, none⟩) 0 0) 0 (txs []) := by rw [← hw2]; exact World.ownsRow_lit (e := 9) (size := 1) w1 #[] 0 (Nat.le_refl _) (by decide) rfl
  have B2 := Ext.then_ hb1 hb12
  have CE : Hid (∀ V, Below w1.heap.size w2 V → ∀ i (h : i < N), V.cell? ⟨g, i, none⟩ = some (.string (mkB ((lnL (bl t))[i]'(by rw [HN.out]; exact h))))) := fun V hV i h =>
    (hV.cell (p := ⟨g, i, none⟩) gl).trans ((hb12.cell (p := ⟨g, i, none⟩) gl).trans (hc i h))
  have HW2 := Lib.hid hw2
  have hz12 := hb1.size
  have hz2 : w1.heap.size ≤ w2.heap.size := hb12.size
  clear hw2 hb12 hc
  go_wp2_with fail
  try simp only [HW2.out]
  go_loopw [7, 8, 9, 10, 11, 12] (fun ov cv nv iv _ _ wr => ∃ (i p ck n g1 c1 : Nat) (o : List (List UInt8)), i ≤ N ∧ iv = .int .i64 i ∧ nv = .int .i64 p ∧ cv = .int .i64 ck ∧ ov = .slice (some ⟨g1, 0, none⟩) n c1 ∧ Hid (RcI t p ck o ∧ o.length = n ∧ (lnL (bl t)).drop i = lnL ((bl t).drop p)) ∧ n ≤ i ∧
    wr.ownsRow w1.heap.size 9 1 (.slice (some ⟨g1, 0, none⟩) n c1) n (txs o) ∧ Below w1.heap.size w2 wr) (fun _ _ _ iv _ _ _ => N - (intOf iv).toNat)
  case atStart => exact ⟨0, 0, 0, 0, _, _, [], Nat.zero_le _, rfl, rfl, rfl, rfl, ⟨RcI.start, rfl, by simp⟩, Nat.le_refl _, O2, Below.refl _ _⟩
  case round =>
    obtain ⟨i, p, ck, n, g1, c1, o, hi, rfl, rfl, rfl, rfl, hI, hn, hown, hb⟩ := hrel
    clear O2
    have HOW := Lib.hid hown
    have gl1 := hown.lt g1 rfl
    have hz := hb.size
    have gg : g < wr.heap.size := by omega
    have B3 : Below w.heap.size w wr := B2.trans (hb.mono hz12)
    have pB := hI.out.1.1
    have ckB := hI.out.1.2.1
    clear hown
    by_cases hlt : i < N
    · have ci := CE.out wr hb i hlt
      have hiN : i < (lnL (bl t)).length := by rw [HN.out]; exact hlt
      have hd : (lnL (bl t))[i] :: (lnL (bl t)).drop (i + 1) = lnL ((bl t).drop p) := by
        rw [← List.drop_eq_getElem_cons hiN]; exact hI.out.2.2
      have hf : fnd 10 ((bl t).drop p) < ((bl t).drop p).length := by
        by_cases h : fnd 10 ((bl t).drop p) < ((bl t).drop p).length
        · exact h
        · rw [lnL_end h] at hd; cases hd
      rw [lnL_hit hf] at hd
      injection hd with hx hd2
      obtain ⟨x, hxx⟩ : ∃ x, (lnL (bl t))[i] = x := ⟨_, rfl⟩
      rw [hxx] at ci hx
      have HF := Lib.hid hf
      have HXD := Lib.hid hx.symm
      have HD2 : Hid ((lnL (bl t)).drop (i + 1) = lnL ((bl t).drop (p + (x.length + 1)))) := by
        have hxl : x.length = fnd 10 ((bl t).drop p) := by rw [hx, List.length_take]; omega
        rw [Hid, hd2, List.drop_drop, hxl]
      have hXs : (mkB x).size ≤ 6000 := by
        have : x.length ≤ ((bl t).drop p).length := by rw [hx, List.length_take]; omega
        rw [List.length_drop, bl_len] at this
        rw [mkB_size]; omega
      have pB2 : p + ((mkB x).size + 1) ≤ 20000 := by omega
      clear hd2 hx hxx hf hiN
      obtain ⟨X, hXX⟩ : ∃ X, mkB x = X := ⟨_, rfl⟩
      have BX : Hid (bl X = x ∧ x.length = X.size) := ⟨by rw [← hXX, bl_mkB], by rw [← hXX, mkB_size]⟩
      rw [hXX] at ci hXs pB2
      clear hXX
      have i0 : (0 : Int) ≤ (i : Int) := by omega
      have i1 : (i : Int) < (N : Int) := by omega
      go_wp2_with fail
      go_loopw [11] (fun kv wi => ∃ q : Nat, q ≤ X.size ∧ kv = .int .i64 q ∧ Hid (∀ j (h : j < X.size), j < q → X[j] ≠ 32) ∧ wi = wr) (fun kv _ => X.size - (intOf kv).toNat)
      case atStart => exact ⟨0, Nat.zero_le _, rfl, fun _ _ h => absurd h (Nat.not_lt_zero _), rfl⟩
      case round =>
        obtain ⟨q, hq, rfl, hq2, rfl⟩ := hrel
        by_cases hql : q < X.size
        · have p0 : (0 : Int) ≤ (q : Int) := by omega
          have p1 : (q : Int) < (X.size : Int) := by omega
          by_cases h32 : X[q] = 32
          · have hv : ((X[q].toNat : Nat) : Int) = 32 := by rw [h32]; rfl
            have FQ : fnd 32 x = q := by
              have h1 := BX.out
              refine fnd_is (by omega) (fun j hj hlt => ?_) (fun h => ?_)
              · have := hq2.out j (by omega) hlt
                have e : x[j] = X[j]'(by omega) := by simp only [← h1.1]; rfl
                rw [e]; exact this
              · have e : x[q] = X[q]'(by omega) := by simp only [← h1.1]; rfl
                rw [e]; exact h32
            have hfl : fnd 32 x < x.length := by rw [FQ, BX.out.2]; exact hql
            have LN2 : Hid (bl (X.extract (q + 1) X.size) = x.drop (fnd 32 x + 1)) := by
              rw [Hid, bl_ext, BX.out.1, FQ, List.take_of_length_le]
              rw [List.length_drop, BX.out.2]; omega
            have PR2 : Hid (bl (X.extract 0 q) = x.take (fnd 32 x)) := by
              rw [Hid, bl_ext, BX.out.1, FQ]; simp
            have HFL := Lib.hid hfl
            clear h32 FQ hfl
            have q1 : (q : Int) + 1 ≤ (X.size : Int) := by omega
            have q0 : (0 : Int) ≤ (q : Int) + 1 := by omega
            have xs2 : (X.extract (q + 1) X.size).size ≤ 6000 := by
              have : (bl (X.extract (q + 1) X.size)).length ≤ X.size := by rw [bl_ext, List.length_take, List.length_drop, bl_len]; omega
              rw [bl_len] at this; omega
            have e1 : ((q : Int) + 1).toNat = q + 1 := by omega
            obtain ⟨Y, hYY⟩ : ∃ Y, X.extract (q + 1) X.size = Y := ⟨_, rfl⟩
            obtain ⟨Z, hZZ⟩ : ∃ Z, X.extract 0 q = Z := ⟨_, rfl⟩
            have ckn := chk_lt (bl Y) ck ckB
            have CH := Lib.hid (checkS_any ck Y wr ckB (by rw [← hYY]; omega))
            obtain ⟨m, hm⟩ : ∃ m, chk ck (bl Y) = m := ⟨_, rfl⟩
            rw [hm] at CH ckn
            have DC := Lib.hid (fun V => decS_any (m : Int) V (by omega) (by omega))
            have ZD : Hid (Z = ⟨(Lib.itoa (m : Int)).toArray⟩ → x.take (fnd 32 x) = Lib.decDigits (chk ck (x.drop (fnd 32 x + 1)))) := fun h => by
              rw [← PR2.out, hZZ, ← LN2.out, hYY, hm, h, itoa_nat]; simp [bl]
            have ZN : Hid (Z ≠ ⟨(Lib.itoa (m : Int)).toArray⟩ → rcv ck ((bl t).drop p) = ([], 0)) := fun h => by
              refine rcv_bad HXD.out ?_
              intro e
              apply h
              rw [← PR2.out, ← LN2.out, hZZ, hYY, hm] at e
              rw [← mkB_bl Z, e, itoa_nat]; rfl
            have MK : Hid (chk ck (x.drop (fnd 32 x + 1)) = m ∧ x.drop (fnd 32 x + 1) = bl Y) := ⟨by rw [← LN2.out, hYY, hm], by rw [← LN2.out, hYY]⟩
            clear LN2 PR2 hm
            have EY := hYY
            have EZ := hZZ
            clear hYY hZZ
            obtain ⟨D, hDD⟩ : ∃ D, ByteArray.mk (Lib.itoa (m : Int)).toArray = D := ⟨_, rfl⟩
            rw [hDD] at DC ZD ZN
            clear hDD
            go_wp2_with fail
            refine CH.out.mono ?_
            rintro e w' ⟨rfl, rfl⟩
            go_wp2_with fail
            go_region_held3 (fun w' => w'.cell? ⟨g, i, none⟩ = some (.string X))
              (first | ((go_split_ands; exact (hb'.cell (p := ⟨_, _, none⟩) (by first | omega | (simp; omega) | simp)).trans (by assumption))) | go_keep)
              (first
                | (go_at_call 28; refine (DC.out _).mono ?_; rintro e w4 ⟨rfl, hb'⟩))
            have B4 : Below wr.heap.size wr w4 := Ext.undraw hb'
            have HO4 := Lib.hid (own_ext B4 HOW.out)
            have hb4 : Below w1.heap.size w2 w4 := hb.trans (B4.mono (by omega))
            have B34 : Below w.heap.size w w4 := B3.trans (B4.mono (by omega))
            have hz4 := B4.size
            by_cases hZ : Z = D
            · rw [tl_eq hZ, Bool.not_true]
              have NX : Hid (RcI t (p + (X.size + 1)) m (o ++ [bl Y]) ∧ (o ++ [bl Y]).length = n + 1 ∧ (lnL (bl t)).drop (i + 1) = lnL ((bl t).drop (p + (X.size + 1)))) := by
                have h1 := hI.out.1.next HF.out HXD.out HFL.out (ZD.out hZ)
                rw [MK.out.1, MK.out.2, BX.out.2] at h1
                refine ⟨h1, by rw [List.length_append, hI.out.2.1]; rfl, ?_⟩
                rw [← BX.out.2]; exact HD2.out
              have TS : Hid (txs (o ++ [bl Y]) = txs o ++ [.string Y]) := by rw [Hid, txs_snoc, mkB_bl]
              clear hZ ZN ZD hI HF HXD HFL HD2 MK hb'
              go_wp2_with (at_builtin; refine wpList_app strT (by rfl) _ _ (by rfl) w1.heap.size (.slice (some ⟨g1, 0, none⟩) n c1) n (txs o) (by rfl) (HO4.out.alloc _) w4.heap.size #[.string Y] (by rfl) (heap_alloc_new _ _) rfl (by simp [Value.oneCell']) (by omega) (by simp; omega) ?_; intro g5 c5 w5 own5 hg5 hat5 hlt5; have B5 : Below w1.heap.size w2 w5 := (hb4.alloc (by omega) _).grown hg5 (by simp; omega) (fun z hz => by simp [Value.ownBlock] at hz; omega); have HO := Lib.hid (own_str own5 (Nat.le_refl _) (ys := txs (o ++ [bl Y])) TS.out.symm rfl); have ci5 : w5.cell? ⟨g, i, none⟩ = some (.string X) := (B5.cell (p := ⟨g, i, none⟩) gl).trans (((hb.cell (p := ⟨g, i, none⟩) gl).symm).trans ci); clear own5 hg5 hat5 hlt5)
              go_wp2_with fail
              go_roundw
              case rel => exact ⟨i + 1, p + (X.size + 1), m, n + 1, g5, c5, o ++ [bl Y], by omega, by go_num, by go_num, rfl, rfl, NX.out, by omega, HO.out, B5⟩
              case measure => simp [intOf]; omega
            · rw [tl_ne hZ, Bool.not_false]
              have ST := Lib.hid (hI.out.1.stop (ZN.out hZ))
              have HL := Lib.hid hI.out.2.1
              clear hZ ZN ZD hI HF HXD HFL HD2 MK hb'
              go_wp2_with fail
              go_ret3
              exact RES.out _ o p n g1 c1 ST.out HL.out (own_base HO4.out hz12) B34
          · have hv : (((X[q].toNat : Nat) : Int) != 32) = true := by rw [bne, show (((X[q].toNat : Nat) : Int) == 32) = false from byte_ne (b := 32) h32]; rfl
            have Q2 : Hid (∀ j (h : j < X.size), j < q + 1 → X[j] ≠ 32) := fun j h hj => by
              rcases Nat.lt_succ_iff_lt_or_eq.1 hj with h1 | rfl
              · exact hq2.out j h h1
              · exact h32
            clear h32
            go_wp2_with fail
            go_roundw
            case rel => exact ⟨q + 1, by omega, by go_num, Q2, by trivial⟩
            case measure => simp [intOf]; omega
        · obtain rfl : q = X.size := by omega
          have NO : rcv ck ((bl t).drop p) = ([], 0) := by
            refine rcv_no HXD.out ?_
            rw [fnd_none]
            · omega
            · rw [← BX.out.1]
              exact not_mem_of X 32 (fun j h => hq2.out j h h)
          have ST := Lib.hid (hI.out.1.stop NO)
          have HL := Lib.hid hI.out.2.1
          clear NO hI
          go_wp2_with fail
          go_ret3
          exact RES.out _ o p n g1 c1 ST.out HL.out (own_base HOW.out hz12) B3
    · have iN : i = N := by omega
      have NO : rcv ck ((bl t).drop p) = ([], 0) := by
        refine rcv_end (fun h => ?_)
        have h1 := hI.out.2.2
        rw [lnL_hit h, List.drop_of_length_le (by rw [HN.out]; omega)] at h1
        cases h1
      have ST := Lib.hid (hI.out.1.stop NO)
      have HL := Lib.hid hI.out.2.1
      have q1 : ¬ (i : Int) < (N : Int) := by omega
      clear NO hI iN
      go_wp2_with fail
      go_ret3
      exact RES.out _ o p n g1 c1 ST.out HL.out (own_base HOW.out hz12) B3
end Go.Proofs.YtgbciimfpahekaaDoor
