/- Journals recovered: the program's. -/
import Derived.Test.YtgbciimfpahekaaDoorJnJ
import Derived.Test.YtgbciimfpahekaaDoorJnR
import Derived.Test.YtgbciimfpahekaaDoorHQ
namespace Go.Proofs.YtgbciimfpahekaaDoor
open Go.RowKit Go.Shelf

theorem extB_fnd (s : ByteArray) (b : UInt8) : s.extract 0 (fnd b (bl s)) = mkB ((bl s).take (fnd b (bl s))) := by rw [ext_mkB, List.drop_zero, Nat.sub_zero]
theorem idxB (s : ByteArray) (w : World) : Calls Tryd.prog 29 #[.string s, .int .u8 10] w fun e w' => e = .returned (.int .i64 (if fnd 10 (bl s) < s.size then (fnd 10 (bl s) : Int) else -1)) ∧ w = w' :=
  (Tryd.strings_IndexByte s 10 w).mono fun _ _ ⟨h1, h2⟩ => ⟨by rw [h1, show s.data.toList = bl s from rfl, show ((10 : Int).toNat.toUInt8) = (10 : UInt8) from rfl, idx_fnd, bl_len], h2.symm⟩
set_option maxHeartbeats 1000000 in
theorem cutLite_any (s : ByteArray) (w : World) (hs : s.size ≤ 1000000) :
    Calls Tryd.prog 42 #[.string s, .string ⟨#[32]⟩] w fun e w' =>
      (if fnd 32 (bl s) < s.size then e = .returned (.tuple #[.string (s.extract 0 (fnd 32 (bl s))), .string (s.extract (fnd 32 (bl s) + 1) s.size), .bool true]) else e = .returned (.tuple #[.string s, .string ⟨#[]⟩, .bool false])) ∧ Below w.heap.size w w' := by
  have C := Lib.hid (Tryd.stringslite_Index_one s 32 w)
  rw [show s.data.toList = bl s from rfl, idx_fnd, bl_len] at C
  generalize fnd 32 (bl s) = k at *
  by_cases h : k < s.size
  · rw [if_pos h] at C
    simp only [if_pos h]
    have q0 : (0 : Int) ≤ (k : Int) := by omega
    have q1 : (k : Int) ≤ (s.size : Int) := by omega
    have q2 : (k : Int) + 1 ≤ (s.size : Int) := by omega
    have q3 : (0 : Int) ≤ (k : Int) + 1 := by omega
    have e1 : ((k : Int) + 1).toNat = k + 1 := by omega
    go_enter Tryd.func42, Tryd.ntmps42
    go_wp2_with fail
    refine (C.out).mono ?_
    rintro e w' ⟨rfl, rfl⟩
    go_wp2_with fail
    go_region
    all_goals
      go_wp2_with fail
      go_ret3
      exact ⟨rfl, Ext.draw (Ext.refl _)⟩
  · rw [if_neg h] at C
    simp only [if_neg h]
    go_enter Tryd.func42, Tryd.ntmps42
    go_wp2_with fail
    refine (C.out).mono ?_
    rintro e w' ⟨rfl, rfl⟩
    go_wp2_with fail
    go_ret3
    exact ⟨rfl, Ext.refl _⟩
theorem cutI_any (s : ByteArray) (w : World) (hs : s.size ≤ 1000000) :
    Calls Tryd.prog 30 #[.string s, .string ⟨#[32]⟩] w fun e w' =>
      (if fnd 32 (bl s) < s.size then e = .returned (.tuple #[.string (s.extract 0 (fnd 32 (bl s))), .string (s.extract (fnd 32 (bl s) + 1) s.size), .bool true]) else e = .returned (.tuple #[.string s, .string ⟨#[]⟩, .bool false])) ∧ Below w.heap.size w w' := by
  have C := Lib.hid (cutLite_any s w hs)
  by_cases h : fnd 32 (bl s) < s.size
  · simp only [if_pos h] at C ⊢
    generalize s.extract 0 (fnd 32 (bl s)) = a at *
    generalize s.extract (fnd 32 (bl s) + 1) s.size = b at *
    go_enter Tryd.func30, Tryd.ntmps30
    go_wp2_with fail
    refine (C.out).mono ?_
    rintro e w' ⟨rfl, hb⟩
    go_wp2_with fail
    go_ret3
    exact ⟨rfl, hb⟩
  · simp only [if_neg h] at C ⊢
    go_enter Tryd.func30, Tryd.ntmps30
    go_wp2_with fail
    refine (C.out).mono ?_
    rintro e w' ⟨rfl, hb⟩
    go_wp2_with fail
    go_ret3
    exact ⟨rfl, hb⟩
set_option maxRecDepth 100000 in
set_option maxHeartbeats 2000000 in
theorem recover_any (t : ByteArray) (w : World) (ht : t.size ≤ 1000000000) (hT : TabOk w) :
    Calls Tryd.prog 12 #[.string t] w (RcRes w t) := by
  by_cases hbig : 6000 < t.size
  · have t0 : (6000 : Int) < (t.size : Int) := by omega
    have F := Lib.hid (RcRes.no (w := w) hbig (Ext.refl w))
    clear hbig hT
    go_enter Tryd.func12, Tryd.ntmps12
    go_wp2_with fail
    go_ret3
    exact F.out
  have t0 : ¬ (6000 : Int) < (t.size : Int) := by omega
  have hs : t.size ≤ 6000 := by omega
  have RES : Hid (∀ V (o : List (List UInt8)) (p n g c : Nat), rcv 0 (bl t) = (o, p) → o.length = n → V.ownsRow w.heap.size 9 1 (.slice (some ⟨g, 0, none⟩) n c) n (txs o) → Below w.heap.size w V → RcRes w t (.returned (.tuple #[.slice (some ⟨g, 0, none⟩) n c, .int .i64 p, .bool true])) V) :=
    fun V o p n g c h1 h2 h3 h4 => RcRes.yes hs h1 h2 h3 h4
  have HT := Lib.hid (fun V (hb : Below w.heap.size w V) => hT.ext hb)
  obtain ⟨w2, hw2⟩ : ∃ w2, w.alloc (.cells #[] 9) = w2 := ⟨_, rfl⟩
  have O2 : w2.ownsRow w.heap.size 9 1 (.slice (some ⟨w.heap.size, 0, none⟩) 0 0) 0 (txs []) := by rw [← hw2]; exact World.ownsRow_lit (e := 9) (size := 1) w #[] 0 (Nat.le_refl _) (by decide) rfl
  have B2 : Below w.heap.size w w2 := by rw [← hw2]; exact Ext.more (Ext.refl _) _
  have HW2 := Lib.hid hw2
  clear hw2 hbig hT
  go_enter Tryd.func12, Tryd.ntmps12
  go_wp2_with fail
  try simp only [HW2.out]
  go_loopw [5, 6, 7, 8, 9, 10, 11, 12, 13] (fun ov pv cv _ _ _ _ _ _ wr => ∃ (p ck n g1 c1 : Nat) (o : List (List UInt8)), pv = .int .i64 p ∧ cv = .int .i64 ck ∧ ov = .slice (some ⟨g1, 0, none⟩) n c1 ∧ Hid (RcI t p ck o ∧ o.length = n) ∧ n ≤ p ∧
    wr.ownsRow w.heap.size 9 1 (.slice (some ⟨g1, 0, none⟩) n c1) n (txs o) ∧ Below w.heap.size w wr) (fun _ pv _ _ _ _ _ _ _ _ => t.size - (intOf pv).toNat)
  case atStart => exact ⟨0, 0, 0, _, _, [], rfl, rfl, rfl, ⟨RcI.start, rfl⟩, Nat.le_refl _, O2, B2⟩
  case round =>
    obtain ⟨p, ck, n, g1, c1, o, rfl, rfl, rfl, hI, hn, hown, hb⟩ := hrel
    clear O2 B2
    have HOW := Lib.hid hown
    have gl1 := hown.lt g1 rfl
    have hz := hb.size
    have pB := hI.out.1.1
    have ckB := hI.out.1.2.1
    clear hown
    have p0 : (0 : Int) ≤ (p : Int) := by omega
    have p1 : (p : Int) ≤ (t.size : Int) := by omega
    have ET : bl (t.extract p t.size) = (bl t).drop p := by
      rw [bl_ext, List.take_of_length_le]; rw [List.length_drop, bl_len]; omega
    have IX := Lib.hid (idxB (t.extract p t.size) wr)
    rw [ET] at IX
    have hTs : (t.extract p t.size).size = t.size - p := by rw [← bl_len, ET, List.length_drop, bl_len]
    rw [hTs] at IX
    have hDl : ((bl t).drop p).length = t.size - p := by rw [List.length_drop, bl_len]
    obtain ⟨e, he⟩ : ∃ e, fnd 10 ((bl t).drop p) = e := ⟨_, rfl⟩
    have HE := Lib.hid he
    rw [he] at IX
    by_cases hlt : e < t.size - p
    · rw [if_pos hlt] at IX
      have HF : Hid (fnd 10 ((bl t).drop p) < ((bl t).drop p).length) := by rw [Hid, he, hDl]; exact hlt
      obtain ⟨x, hx⟩ : ∃ x, ((bl t).drop p).take e = x := ⟨_, rfl⟩
      have HXD : Hid (((bl t).drop p).take (fnd 10 ((bl t).drop p)) = x) := by rw [Hid, he, hx]
      have EX : t.extract p (p + e) = mkB x := by rw [ext_mkB, show p + e - p = e by omega, hx]
      have hxl : x.length = e := by rw [← hx, List.length_take, hDl]; omega
      have BX0 : bl (t.extract p (p + e)) = x := by rw [EX, bl_mkB]
      have hXs : (t.extract p (p + e)).size = e := by rw [EX, mkB_size, hxl]
      clear ET hTs hDl he hx EX
      obtain ⟨X, hXX⟩ : ∃ X, t.extract p (p + e) = X := ⟨_, rfl⟩
      rw [hXX] at BX0 hXs
      have BX : Hid (bl X = x ∧ x.length = X.size) := ⟨BX0, by rw [hxl, hXs]⟩
      have hel : X.size ≤ 6000 := by omega
      have CU := Lib.hid (cutI_any X wr (by omega))
      rw [BX0] at CU
      have q1 : (p : Int) + (e : Int) ≤ (t.size : Int) := by omega
      have q2 : (p : Int) ≤ (p : Int) + (e : Int) := by omega
      have e1 : ((p : Int) + (e : Int)).toNat = p + e := by omega
      have ne : ¬ ((e : Nat) : Int) < 0 := by omega
      clear BX0 hxl
      by_cases h32 : fnd 32 x < X.size
      · simp only [if_pos h32] at CU
        have HFL : Hid (fnd 32 x < x.length) := by rw [Hid, BX.out.2]; exact h32
        have LN2 : Hid (bl (X.extract (fnd 32 x + 1) X.size) = x.drop (fnd 32 x + 1)) := by
          rw [Hid, bl_ext, BX.out.1, List.take_of_length_le]
          rw [List.length_drop, BX.out.2]; omega
        have PR2 : Hid (bl (X.extract 0 (fnd 32 x)) = x.take (fnd 32 x)) := by
          rw [Hid, bl_ext, BX.out.1]; simp
        have SPL : Hid (x = x.take (fnd 32 x) ++ 32 :: x.drop (fnd 32 x + 1)) := fnd_split HFL.out
        obtain ⟨Y, hYY⟩ : ∃ Y, X.extract (fnd 32 x + 1) X.size = Y := ⟨_, rfl⟩
        obtain ⟨Z, hZZ⟩ : ∃ Z, X.extract 0 (fnd 32 x) = Z := ⟨_, rfl⟩
        rw [hYY] at LN2 CU
        rw [hZZ] at PR2 CU
        have hYs : Y.size ≤ 6000 := by
          rw [← bl_len Y, LN2.out, List.length_drop, BX.out.2]; omega
        have ckn := chk_lt (bl Y) ck ckB
        have CH := Lib.hid (fun V => check_any ck Y V ckB (by omega))
        obtain ⟨m, hm⟩ : ∃ m, chk ck (bl Y) = m := ⟨_, rfl⟩
        rw [hm] at CH ckn
        have DC := Lib.hid (fun V (hV : Below wr.heap.size wr V) => decimal_any (m : Int) V (by omega) (by omega) (HT.out V (Ext.then_ hb hV)))
        have hD : (mkB (Lib.itoa (m : Int))).size ≤ 21 := by rw [mkB_size]; exact itoa_len _ (by omega) (by omega)
        have eD : ByteArray.mk (Lib.itoa (m : Int)).toArray = mkB (Lib.itoa (m : Int)) := rfl
        rw [eD] at DC
        have DB : bl (mkB (Lib.itoa (m : Int))) = Lib.decDigits m := by rw [bl_mkB, itoa_nat]
        obtain ⟨D, hDD⟩ : ∃ D, mkB (Lib.itoa (m : Int)) = D := ⟨_, rfl⟩
        rw [hDD] at DC hD DB
        have BD3 : bl (D ++ ByteArray.mk #[32] ++ Y) = bl D ++ 32 :: bl Y := by simp [bl]
        have ZD : Hid (D ++ ByteArray.mk #[32] ++ Y = X → x.take (fnd 32 x) = Lib.decDigits (chk ck (x.drop (fnd 32 x + 1)))) := fun h => by
          have h2 := congrArg bl h
          rw [BD3, BX.out.1, SPL.out, ← LN2.out, DB] at h2
          rw [← LN2.out, hm]
          exact (List.append_cancel_right h2).symm
        have ZN : Hid (D ++ ByteArray.mk #[32] ++ Y ≠ X → rcv ck ((bl t).drop p) = ([], 0)) := fun h => by
          refine rcv_bad HXD.out (fun h2 => h ?_)
          have : bl (D ++ ByteArray.mk #[32] ++ Y) = bl X := by
            rw [BD3, BX.out.1, DB, LN2.out]
            conv => rhs; rw [SPL.out]
            rw [h2, ← LN2.out, hm]
          rw [← mkB_bl (D ++ ByteArray.mk #[32] ++ Y), this, mkB_bl]
        have MK : Hid (chk ck (x.drop (fnd 32 x + 1)) = m ∧ x.drop (fnd 32 x + 1) = bl Y) := ⟨by rw [← LN2.out, hm], LN2.out.symm⟩
        clear hm hYY hZZ hDD eD DB BD3 LN2 PR2 SPL h32
        obtain ⟨E, hEE⟩ : ∃ E, D ++ ByteArray.mk #[32] ++ Y = E := ⟨_, rfl⟩
        rw [hEE] at ZD ZN
        have t1 : ¬ 9223372036854775807 < D.size + 1 := by omega
        have t2 : ¬ 9223372036854775807 < D.size + 1 + Y.size := by omega
        have EX2 := hXX
        go_wp2_with fail
        refine IX.out.mono ?_
        rintro e2 w' ⟨rfl, rfl⟩
        go_wp2_with fail
        refine CU.out.mono ?_
        rintro e2 w3 ⟨rfl, hb3⟩
        go_wp2_with fail
        refine (CH.out _).mono ?_
        rintro e2 w' ⟨rfl, rfl⟩
        go_wp2_with fail
        refine wp_region_held_quiet (fun U => Below w3.heap.size w3 U) (by kernel_rfl) (by kernel_rfl) (Ext.refl _).drew ?_
        have ne : Nonempty (HeldW (fun U => Below w3.heap.size w3 U)) := ⟨⟨w3, Ext.refl _⟩⟩
        repeat (go_big_quiet_step ((go_at_call 24; exact Calls.above_of _ (DC.out _ (Ext.then_ hb3 (‹HeldW (fun U => Below w3.heap.size w3 U)›).h)))))
        refine wpQuiet_nil ?_
        intro w4 hw'
        obtain ⟨⟨_, hb4⟩, rfl⟩ := hw'
        clear ne 
        have hb34 : Below wr.heap.size wr w4 := Ext.then_ hb3 hb4
        have B4 : Below w.heap.size w w4 := Ext.then_ hb hb34
        have HO4 := Lib.hid (own_ext hb34 HOW.out)
        have hz4 := hb34.size
        try rw [hEE]
        by_cases hZ : E = X
        · rw [tl_eq hZ, Bool.not_true]
          have NX : Hid (RcI t (p + (e + 1)) m (o ++ [bl Y]) ∧ (o ++ [bl Y]).length = n + 1) := by
            have h1 := hI.out.1.next HF.out HXD.out HFL.out (ZD.out hZ)
            rw [MK.out.1, MK.out.2, BX.out.2, hXs] at h1
            exact ⟨h1, by rw [List.length_append, hI.out.2]; rfl⟩
          have TS : Hid (txs (o ++ [bl Y]) = txs o ++ [.string Y]) := by rw [Hid, txs_snoc, mkB_bl]
          clear hZ ZN ZD hI HF HXD HFL MK IX CU CH DC hEE
          go_wp2_with (at_builtin; refine wpList_app strT (by rfl) _ _ (by rfl) w.heap.size (.slice (some ⟨g1, 0, none⟩) n c1) n (txs o) (by rfl) (HO4.out.alloc _) w4.heap.size #[.string Y] (by rfl) (heap_alloc_new _ _) rfl (by simp [Value.oneCell']) (by omega) (by simp; omega) ?_; intro g5 c5 w5 own5 hg5 hat5 hlt5; have B5 : Below w.heap.size w w5 := (B4.alloc (by omega) _).grown hg5 (by simp; omega) (fun z hz => by simp [Value.ownBlock] at hz; omega); have HO := Lib.hid (own_str own5 (Nat.le_refl _) (ys := txs (o ++ [bl Y])) TS.out.symm rfl); clear own5 hg5 hat5 hlt5)
          go_wp2_with fail
          go_roundw
          case rel => exact ⟨p + (e + 1), m, n + 1, g5, c5, o ++ [bl Y], by go_num, rfl, rfl, NX.out, by omega, HO.out, B5⟩
          case measure => simp [intOf]; omega
        · rw [tl_ne hZ, Bool.not_false]
          have ST := Lib.hid (hI.out.1.stop (ZN.out hZ))
          have HL := Lib.hid hI.out.2
          clear hZ ZN ZD hI HF HXD HFL MK IX CU CH DC hEE
          go_wp2_with fail
          go_ret3
          exact RES.out _ o p n g1 c1 ST.out HL.out HO4.out B4
      · simp only [if_neg h32] at CU
        have NO : rcv ck ((bl t).drop p) = ([], 0) := rcv_no HXD.out (by rw [BX.out.2]; exact h32)
        have ST := Lib.hid (hI.out.1.stop NO)
        have HL := Lib.hid hI.out.2
        have CH := Lib.hid (fun V => check_any ck ⟨#[]⟩ V ckB (by simp [ByteArray.size]))
        generalize chk ck (bl ⟨#[]⟩) = m at *
        clear NO hI h32
        go_wp2_with fail
        refine IX.out.mono ?_
        rintro e2 w' ⟨rfl, rfl⟩
        go_wp2_with fail
        refine CU.out.mono ?_
        rintro e2 w3 ⟨rfl, hb3⟩
        go_wp2_with fail
        refine (CH.out _).mono ?_
        rintro e2 w' ⟨rfl, rfl⟩
        go_wp2_with fail
        refine wp_region_held_quiet (fun U => Below w3.heap.size w3 U) (by kernel_rfl) (by kernel_rfl) (Ext.refl _).drew ?_
        have ne : Nonempty (HeldW (fun U => Below w3.heap.size w3 U)) := ⟨⟨w3, Ext.refl _⟩⟩
        repeat (go_big_quiet_step (fail))
        refine wpQuiet_nil ?_
        intro w4 hw'
        obtain ⟨⟨_, hb4⟩, rfl⟩ := hw'
        clear ne 
        have hb34 : Below wr.heap.size wr w4 := Ext.then_ hb3 hb4
        have B4 : Below w.heap.size w w4 := Ext.then_ hb hb34
        have HO4 := Lib.hid (own_ext hb34 HOW.out)
        go_wp2_with fail
        go_ret3
        exact RES.out _ o p n g1 c1 ST.out HL.out HO4.out B4
    · rw [if_neg hlt] at IX
      have NO : rcv ck ((bl t).drop p) = ([], 0) := rcv_end (by rw [he, hDl]; exact hlt)
      have ST := Lib.hid (hI.out.1.stop NO)
      have HL := Lib.hid hI.out.2
      clear NO hI hlt he ET hTs hDl
      go_wp2_with fail
      refine IX.out.mono ?_
      rintro e2 w' ⟨rfl, rfl⟩
      go_wp2_with fail
      go_ret3
      exact RES.out _ o p n g1 c1 ST.out HL.out HOW.out hb
end Go.Proofs.YtgbciimfpahekaaDoor
