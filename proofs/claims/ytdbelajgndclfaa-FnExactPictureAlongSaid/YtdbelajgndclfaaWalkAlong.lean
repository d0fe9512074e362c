/- The law FnExactPictureAlong, walked. -/
import Derived.Test.YtdbelajgndclfaaShp
import Derived.Test.YtdbelajgndclfaaAlongQ
namespace Go.Proofs.Ytdbelajgndclfaa
open Go.RowKit

set_option maxRecDepth 100000 in
set_option maxHeartbeats 4000000 in
theorem walkPictureAlong (W : World) (Apr : Option Addr) (cpr : Nat) (pr : List ByteArray) (hApr : RdA W Apr (strs pr)) (hnpr : pr.length ≤ maxLen) (hspr : ∀ r ∈ pr, r.size ≤ maxLen) (cv : Int) :
    Calls Try.prog 11 #[.agg #[.slice Apr pr.length cpr], .int .i64 cv] W fun e w' => e = .returned (.bool true) ∧ Below W.heap.size W w' := by
  have SZpr := Lib.hid (fun (l0 : Nat) (hl : l0 ≤ 1048576) V (hb : Below W.heap.size W V) => picSz_any Apr cpr pr l0 hl V (hApr.ext hb) hnpr hspr)
  have TOpr := Lib.hid (fun V (hb : Below W.heap.size W V) (hm : picSmall pr) => picTo_any Apr cpr pr V (hApr.ext hb) hm)
  have EXpr := Lib.hid (fun (A B : Option Addr) (c d : Nat) V (h1 : Rd V A (strs pr)) (h2 : Rd V B (strs pr)) (hm : picSmall pr) => eqPic_any A B c d pr V h1 h2 (by unfold picSmall at hm; omega))
  have MXpr := Lib.hid (fun (lo hi : Nat) (A : Option Addr) (c : Nat) (k0 : Nat) (h0 : 0 < k0) (hk : k0 ≤ 2000000) V (h1 : PicO V lo hi A c pr) (hm : picSmall pr) => picMark_any lo hi A c pr k0 h0 V h1 (by unfold picSmall at hm; omega) (by omega))
  have IM := Lib.hid (fun (A_pr : Option Addr) (c_pr : Nat) V (h_pr : Rd V A_pr (strs pr)) (m_pr : picSmall pr) => (pictureAlong_any A_pr c_pr pr cv V h_pr (by unfold picSmall at m_pr; omega)).mono (fun _ _ h => IntsRes.o h))
  have SP := Lib.hid (fun (A_pr : Option Addr) (c_pr : Nat) V (h_pr : Rd V A_pr (strs pr)) (m_pr : picSmall pr) => (pictureAlongS_any A_pr c_pr pr cv V h_pr (by unfold picSmall at m_pr; omega)).mono (fun _ _ h => IntsRes.o h))
  have hR0 : Hid ((if alongOk pr cv then alongR pr cv else []).length ≤ 1048576) := by
    by_cases hp : alongOk pr cv = true
    · rw [if_pos hp, Hid]
      have h1 : picOk pr = true := by simp only [alongOk, Bool.and_eq_true] at hp; exact hp.1.1.1
      obtain ⟨s1, s2, s3, s4⟩ := picOk_sizes h1
      have h2 := (colTo_bd (alB (picBits pr) (picW pr) pr.length (visTo cv (ordOf (picW pr)) (picW pr) (picW pr))) _ (Nat.le_refl _)).2.1
      have h3 : (alB (picBits pr) (picW pr) pr.length (visTo cv (ordOf (picW pr)) (picW pr) (picW pr))).length = picW pr * picW pr := by rw [alB_length, visTo_length]
      have h4 : picW pr * picW pr ≤ 16 * 16 := Nat.mul_le_mul s4 s4
      show (colTo _ _).1.length ≤ 1048576
      omega
    · rw [if_neg hp]; exact Nat.zero_le _

  clear hApr hnpr hspr
  generalize (if alongOk pr cv then alongR pr cv else []) = R0 at *
  generalize (alongOk pr cv) = R1 at *
  have ER0 := Lib.hid (fun (A B : Option Addr) (c d : Nat) V (h1 : Rd V A (ints R0)) (h2 : Rd V B (ints R0)) => intsEq_any A B c d R0 V h1 h2 (by have := hR0.out; omega))
  have MR0 := Lib.hid (fun (lo hi : Nat) (A : Option Addr) (c : Nat) V (h1 : IntsO V lo hi A c R0) => intsMark_any lo hi A c R0 1 V h1 (by have := hR0.out; omega) (by omega))
  have HR0 := Lib.hid (fun (A : Option Addr) (c : Nat) V (h1 : Rd V A (ints (marks 1 R0.length))) => intsHeld_any A c R0.length 1 V h1 (by have := hR0.out; omega) (by omega))
  generalize marks 1 R0.length = K0 at *
  have hC0 : Hid (R0.length ≤ 1048576) := hR0.out
  clear hR0
  generalize R0.length = m0 at *
  generalize pr.length = n_pr at *
  have B1 : Below W.heap.size W (W.alloc (.cells #[.slice Apr n_pr cpr] 32)) := Ext.more (Ext.refl _) _
  have TApr : Blk (W.alloc (.cells #[.slice Apr n_pr cpr] 32)) (W.heap.size) 32 #[.slice Apr n_pr cpr] := Blk.made W 32 #[.slice Apr n_pr cpr]
  go_enter Try.func11, Try.ntmps11
  go_wp2_with fail
  refine (SZpr.out 1048576 (by omega) _ B1).mono ?_
  rintro e w1 ⟨⟨r1, rfl, hr1⟩, hb⟩
  replace B1 := Ext.then_ B1 hb
  replace TApr := TApr.under hb TApr.lt
  clear hb
  by_cases h0 : r1 < 0
  · clear hr1
    go_wp2_with fail
    go_ret
    exact ⟨rfl, B1⟩
  have Mpr : Hid (picSmall pr) := by
    rcases hr1 with h | h
    · exact absurd h h0
    · exact h
  clear SZpr hr1
  have kTApr := TApr.cell 0
  simp at kTApr
  go_wp2_with fail
  have zW2 := B1.size
  have zTApr2 := TApr.lt
  refine (TOpr.out _ B1 Mpr.out).mono ?_
  rintro e w2 ⟨A2, c2, rfl, x2, hb⟩
  have z2 := hb.size
  clear kTApr
  replace B1 := Ext.then_ B1 hb
  replace TApr := TApr.under hb TApr.lt
  clear hb
  go_wp2_with fail
  refine (SP.out _ _ _ x2.rd Mpr.out).mono ?_
  rintro e w3 ⟨A3_0, c3_0, rfl, o3_0, hb⟩
  have z3 := hb.size
  replace B1 := Ext.then_ B1 hb
  replace TApr := TApr.under hb TApr.lt
  replace x2 := x2.ext hb
  clear hb
  clear x2
  have kTApr := TApr.cell 0
  simp at kTApr
  go_wp2_with fail
  have zW4 := B1.size
  have zTApr4 := TApr.lt
  refine (TOpr.out _ B1 Mpr.out).mono ?_
  rintro e w4 ⟨A4, c4, rfl, x4, hb⟩
  have z4 := hb.size
  clear kTApr
  have hbx := Ext.more hb (.cells #[.slice A4 n_pr c4] 26)
  replace B1 := Ext.then_ B1 hbx
  replace TApr := TApr.under hbx TApr.lt
  replace o3_0 := o3_0.ext hbx
  have TX4 := Blk.made w4 26 #[.slice A4 n_pr c4]
  replace x4 := x4.ext (Ext.more (Ext.refl _) (.cells #[.slice A4 n_pr c4] 26))
  clear hb hbx
  have kTX4 := TX4.cell 0
  simp at kTX4
  go_wp2_with fail
  generalize w4.alloc (.cells #[.slice A4 n_pr c4] 26) = V4 at *
  have y4 := TX4.lt
  refine (IM.out _ _ _ x4.rd Mpr.out).mono ?_
  rintro e w5 ⟨A5_0, c5_0, rfl, o5_0, hb⟩
  clear kTX4
  have z5 := hb.size
  replace B1 := Ext.then_ B1 hb
  replace TApr := TApr.under hb TApr.lt
  replace TX4 := TX4.under hb TX4.lt
  replace o3_0 := o3_0.ext hb
  replace x4 := x4.ext hb
  clear hb
  have q1 : (R1 != R1) = false := by simp
  go_wp2_with fail
  refine (ER0.out _ _ _ _ _ o5_0.rd o3_0.rd).mono ?_
  rintro e w6 ⟨rfl, hb⟩
  have z6 := hb.size
  replace B1 := Ext.then_ B1 hb
  replace TApr := TApr.under hb TApr.lt
  replace TX4 := TX4.under hb TX4.lt
  replace o3_0 := o3_0.ext hb
  replace x4 := x4.ext hb
  replace o5_0 := o5_0.ext hb
  clear hb
  go_wp2_with fail
  have kTX4 := TX4.cell 0
  have kTApr := TApr.cell 0
  simp at kTX4 kTApr
  have zz1 := TX4.lt
  have zz2 := TApr.lt
  go_region_held3 (fun w' => w'.cell? ⟨w4.heap.size, 0, none⟩ = some (.slice A4 n_pr c4) ∧ w'.cell? ⟨W.heap.size, 0, none⟩ = some (.slice Apr n_pr cpr))
    (first | ((go_split_ands; refine ⟨?_, ?_⟩ <;> exact (hb'.cell (p := ⟨_, _, none⟩) (by first | omega | (simp; omega) | simp)).trans (by assumption))) | go_keep)
    (first
      | (go_at_call 23; refine (TOpr.out _ (Ext.draw B1) Mpr.out).mono ?_; rintro e w7 ⟨A7, c7, rfl, x7, hb'⟩; have hs7 := hb'; have z7 : w6.heap.size ≤ w7.heap.size := hb'.size)
      | (go_at_call 24; refine (EXpr.out _ _ _ _ _ (x4.ext (Ext.undraw hb')).rd x7.rd Mpr.out).mono ?_; rintro e w8 ⟨rfl, hb'⟩))
  have hb := Ext.undraw (Ext.then_ hs7 hb')
  have z8 : w7.heap.size ≤ w8.heap.size := hb'.size
  clear x7 hs7 hb' zz1 zz2
  clear kTX4 kTApr
  replace B1 := Ext.then_ B1 hb
  replace TApr := TApr.under hb TApr.lt
  replace TX4 := TX4.under hb TX4.lt
  replace o3_0 := o3_0.ext hb
  replace x4 := x4.ext hb
  replace o5_0 := o5_0.ext hb
  clear hb
  have kTX4 := TX4.cell 0
  simp at kTX4
  go_wp2_with fail
  refine (MXpr.out _ _ _ _ (1) (by omega) (by omega) _ x4 Mpr.out).mono ?_
  rintro e w9 ⟨rfl, x4', ch⟩
  clear kTX4
  replace B1 := B1.trans (ch.below (fun k hk => by have := hk.1; have := B1.size; omega) B1.size)
  replace TApr := ch.blk TApr (fun h => by have := h.1; have := h.2; omega)
  replace TX4 := ch.blk TX4 (fun h => by have := h.1; have := h.2; omega)
  replace o3_0 := o3_0.keep ch (fun b h1 h2 h => by have := h.1; have := h.2; omega)
  replace o5_0 := o5_0.keep ch (fun b h1 h2 h => by have := h.1; have := h.2; omega)
  have z9 := ch.size
  clear ch x4'
  clear x4
  clear TX4
  have p0 : ¬ ((1 + n_pr : Nat) : Int) < 0 := by omega
  go_wp2_with fail
  refine (ER0.out _ _ _ _ _ o5_0.rd o3_0.rd).mono ?_
  rintro e w10 ⟨rfl, hb⟩
  have z10 := hb.size
  replace B1 := Ext.then_ B1 hb
  replace TApr := TApr.under hb TApr.lt
  replace o3_0 := o3_0.ext hb
  replace o5_0 := o5_0.ext hb
  clear hb
  clear p0
  go_wp2_with fail
  refine (MR0.out _ _ _ _ _ o5_0).mono ?_
  rintro e w11 ⟨rfl, om, ch⟩
  replace B1 := B1.trans (ch.below (fun k hk => by have := hk.1; have := B1.size; omega) B1.size)
  replace TApr := ch.blk TApr (fun h => by have := h.1; have := h.2; omega)
  replace o3_0 := o3_0.keep ch (fun b h1 h2 h => by have := h.1; have := h.2; omega)
  have z11 := ch.size
  clear ch
  clear o5_0
  go_wp2_with fail
  refine (HR0.out _ _ _ om.rd).mono ?_
  rintro e w12 ⟨rfl, hb⟩
  have z12 := hb.size
  replace B1 := Ext.then_ B1 hb
  replace TApr := TApr.under hb TApr.lt
  replace o3_0 := o3_0.ext hb
  replace om := om.ext hb
  clear hb
  have p0 : ¬ ((1 + m0 : Nat) : Int) < 0 := by omega
  have p1 : (((1 + m0 : Nat) : Int) != ((1 + m0 : Nat) : Int)) = false := by simp
  have kTApr := TApr.cell 0
  simp at kTApr
  go_wp2_with fail
  have zW13 := B1.size
  have zTApr13 := TApr.lt
  refine (TOpr.out _ B1 Mpr.out).mono ?_
  rintro e w13 ⟨A13, c13, rfl, x13, hb⟩
  have z13 := hb.size
  clear kTApr
  replace B1 := Ext.then_ B1 hb
  replace TApr := TApr.under hb TApr.lt
  replace o3_0 := o3_0.ext hb
  replace om := om.ext hb
  clear hb
  go_wp2_with fail
  refine (IM.out _ _ _ x13.rd Mpr.out).mono ?_
  rintro e w14 ⟨A14_0, c14_0, rfl, o14_0, hb⟩
  have z14 := hb.size
  replace B1 := Ext.then_ B1 hb
  replace TApr := TApr.under hb TApr.lt
  replace o3_0 := o3_0.ext hb
  replace om := om.ext hb
  replace x13 := x13.ext hb
  clear hb
  clear x13
  go_wp2_with fail
  refine (ER0.out _ _ _ _ _ o14_0.rd o3_0.rd).mono ?_
  rintro e w15 ⟨rfl, hb⟩
  have z15 := hb.size
  replace B1 := Ext.then_ B1 hb
  replace TApr := TApr.under hb TApr.lt
  replace o3_0 := o3_0.ext hb
  replace om := om.ext hb
  replace o14_0 := o14_0.ext hb
  clear hb
  go_wp2_with fail
  refine (HR0.out _ _ _ om.rd).mono ?_
  rintro e w16 ⟨rfl, hb⟩
  have z16 := hb.size
  replace B1 := Ext.then_ B1 hb
  replace TApr := TApr.under hb TApr.lt
  replace o3_0 := o3_0.ext hb
  replace om := om.ext hb
  replace o14_0 := o14_0.ext hb
  clear hb
  go_wp2_with fail
  go_ret
  exact ⟨rfl, B1⟩
end Go.Proofs.Ytdbelajgndclfaa
