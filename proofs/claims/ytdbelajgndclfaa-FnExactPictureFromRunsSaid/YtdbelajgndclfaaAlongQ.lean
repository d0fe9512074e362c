/- PictureAlong, the reference's. -/
import Derived.Test.YtdbelajgndclfaaAlongP
namespace Go.Proofs.Ytdbelajgndclfaa
open Go.RowKit

set_option maxRecDepth 100000 in
set_option maxHeartbeats 2000000 in
theorem pictureAlongS_any (A : Option Addr) (c : Nat) (rows : List ByteArray) (cv : Int) (w : World) (h : Rd w A (strs rows)) (hn : rows.length ≤ 1000000000) :
    Calls Try.prog 43 #[.agg #[.slice A rows.length c], .int .i64 cv] w (IntsRes w (if alongOk rows cv then alongR rows cv else []) (alongOk rows cv)) := by
  have B1 : Below w.heap.size w (w.alloc (.cells #[.slice A rows.length c] 26)) := Ext.more (Ext.refl _) _
  have P0 : PicAt (w.alloc (.cells #[.slice A rows.length c] 26)) w.heap.size A c rows := ⟨by simp, cell_new _ _ _ _, h.ext B1⟩
  have IH := Lib.hid (isPic_any w.heap.size A c rows _ P0 hn)
  have AK := Lib.hid (fun V => ask_any cv 0 V)
  rw [curveOk_zero] at AK
  cases hp : picOk rows
  · have F : Hid (alongOk rows cv = false) := by simp [Hid, alongOk, hp]
    rw [hp] at IH
    clear hp P0 h
    rw [F.out, if_neg (by decide)]
    go_enter Try.func43, Try.ntmps43
    go_wp2_with fail
    refine IH.out.mono ?_
    rintro e w1 ⟨rfl, k, rfl⟩
    go_wp2_with fail
    go_ret2
    exact IntsRes.nil (Ext.drawN B1 _)
  rw [hp] at IH
  obtain ⟨s1, s2, s3, s4⟩ := picOk_sizes hp
  have WH := Lib.hid (fun V (hV : PicAt V w.heap.size A c rows) => width_any w.heap.size A c rows V hV s1)
  have HH := Lib.hid (fun V (hV : PicAt V w.heap.size A c rows) => height_any w.heap.size A c rows V hV)
  have P1 := Lib.hid (fun k => P0.drewN k)
  by_cases hw : picW rows = rows.length
  · have q1 : ((picW rows : Int) != (rows.length : Int)) = false := by simp [hw]
    have OH := Lib.hid (fun V => orderS_any (picW rows) V)
    by_cases ho : 0 ≤ ordOf (picW rows)
    · have q2 : ¬ ordOf (picW rows) < 0 := by omega
      cases hc : inB cv 0 3
      · have F : Hid (alongOk rows cv = false) := by simp [Hid, alongOk, hc]
        rw [hc] at AK
        rw [F.out, if_neg (by decide)]
        clear hw hc F hp h P0
        generalize rows.length = H at *
        generalize picW rows = W at *
        generalize ordOf W = od at *
        go_enter Try.func43, Try.ntmps43
        go_wp2_with fail
        refine IH.out.mono ?_
        rintro e w1 ⟨rfl, k, rfl⟩
        go_wp2_with (first | (go_at_call 88; refine (WH.out _ (P1.out k)).mono ?_; rintro e w' ⟨rfl, rfl⟩) | (go_at_call 89; refine (HH.out _ (P1.out k)).mono ?_; rintro e w' ⟨rfl, rfl⟩) | (go_at_call 104; refine (OH.out _).mono ?_; rintro e w' ⟨rfl, rfl⟩) | (go_at_call 105; refine (AK.out _).mono ?_; rintro e w' ⟨rfl, rfl⟩))
        go_ret2
        exact IntsRes.nil (Ext.drawN B1 _)
      · have F : Hid (alongOk rows cv = true) := by simp only [Hid, alongOk, hc, hp, decide_eq_true hw, decide_eq_true ho]; rfl
        rw [hc] at AK
        rw [F.out, if_pos rfl]
        obtain ⟨o0, o4, os⟩ := ordOf_side ho
        obtain ⟨c0, c3⟩ := inB_iff.1 hc
        have AH := Lib.hid (fun V (hV : PicAt V w.heap.size A c rows) => alongS_any w.heap.size A c rows cv (ordOf (picW rows)) V hV hp c0 c3 o0 o4 (picW rows) os)
        have E : Hid (colR (alB (picBits rows) (picW rows) rows.length (visTo cv (ordOf (picW rows)) (picW rows) (picW rows))) = alongR rows cv) := rfl
        rw [E.out] at AH
        clear hw hc F hp h P0 E os
        generalize alongR rows cv = RR at *
        generalize rows.length = H at *
        generalize picW rows = W at *
        generalize ordOf W = od at *
        go_enter Try.func43, Try.ntmps43
        go_wp2_with fail
        refine IH.out.mono ?_
        rintro e w1 ⟨rfl, k, rfl⟩
        go_wp2_with (first | (go_at_call 88; refine (WH.out _ (P1.out k)).mono ?_; rintro e w' ⟨rfl, rfl⟩) | (go_at_call 89; refine (HH.out _ (P1.out k)).mono ?_; rintro e w' ⟨rfl, rfl⟩) | (go_at_call 104; refine (OH.out _).mono ?_; rintro e w' ⟨rfl, rfl⟩) | (go_at_call 105; refine (AK.out _).mono ?_; rintro e w' ⟨rfl, rfl⟩))
        refine (AH.out _ (P1.out k)).mono ?_
        rintro e w5 ⟨A5, c5, rfl, hown5, hb5⟩
        have O5 := Lib.hid (RowO.low (RowO.of_own hown5) (Ext.drawN B1 k).size (Nat.le_refl _))
        have B5 := Ext.then_ (Ext.drawN B1 k) hb5
        clear hown5 hb5
        go_wp2_with fail
        go_ret2
        exact ⟨_, _, rfl, O5.out, B5⟩
    · have q2 : ordOf (picW rows) < 0 := by omega
      have F : Hid (alongOk rows cv = false) := by simp [Hid, alongOk, ho]
      rw [F.out, if_neg (by decide)]
      clear hw F hp h P0 ho
      generalize rows.length = H at *
      generalize picW rows = W at *
      generalize ordOf W = od at *
      go_enter Try.func43, Try.ntmps43
      go_wp2_with fail
      refine IH.out.mono ?_
      rintro e w1 ⟨rfl, k, rfl⟩
      go_wp2_with (first | (go_at_call 88; refine (WH.out _ (P1.out k)).mono ?_; rintro e w' ⟨rfl, rfl⟩) | (go_at_call 89; refine (HH.out _ (P1.out k)).mono ?_; rintro e w' ⟨rfl, rfl⟩) | (go_at_call 104; refine (OH.out _).mono ?_; rintro e w' ⟨rfl, rfl⟩))
      go_ret2
      exact IntsRes.nil (Ext.drawN B1 _)
  · have q1 : ((picW rows : Int) != (rows.length : Int)) = true := by simp; omega
    have F : Hid (alongOk rows cv = false) := by simp [Hid, alongOk, hw]
    rw [F.out, if_neg (by decide)]
    clear hw F hp h P0
    generalize rows.length = H at *
    generalize picW rows = W at *
    go_enter Try.func43, Try.ntmps43
    go_wp2_with fail
    refine IH.out.mono ?_
    rintro e w1 ⟨rfl, k, rfl⟩
    go_wp2_with (first | (go_at_call 88; refine (WH.out _ (P1.out k)).mono ?_; rintro e w' ⟨rfl, rfl⟩) | (go_at_call 89; refine (HH.out _ (P1.out k)).mono ?_; rintro e w' ⟨rfl, rfl⟩))
    go_ret2
    exact IntsRes.nil (Ext.drawN B1 _)
end Go.Proofs.Ytdbelajgndclfaa
