/- Pictures along curves: both sides. -/
import Derived.Test.YtdbelajgndclfaaAlong
import Derived.Test.YtdbelajgndclfaaShp
import Derived.Test.YtdbelajgndclfaaSRes
import Derived.Test.YtdbelajgndclfaaHQ
namespace Go.Proofs.Ytdbelajgndclfaa
open Go.RowKit

/-- A call has returned numbers in new memory, and a bool. -/
def IntsRes (w : World) (R : List Int) (ok : Bool) (e : Ending) (w' : World) : Prop :=
  ∃ A c, e = .returned (.tuple #[.slice A R.length c, .bool ok]) ∧ IntsO w' w.heap.size w'.heap.size A c R ∧ Below w.heap.size w w'
theorem IntsRes.o {w w' : World} {R : List Int} {ok : Bool} {e : Ending} (h : IntsRes w R ok e w') : ∃ A c, e = .returned (.tuple #[.slice A R.length c, .bool ok]) ∧ IntsO w' w.heap.size w'.heap.size A c R ∧ Below w.heap.size w w' := h
theorem IntsRes.nil {w w' : World} (hb : Below w.heap.size w w') : IntsRes w [] false (.returned (.tuple #[.slice none 0 0, .bool false])) w' :=
  ⟨none, 0, rfl, RowO.low (RowO.of_own (World.ownsRow_nil _ _ _ _)) (Nat.le_refl _) (Nat.le_refl _), hb⟩

def alongOk (rows : List ByteArray) (c : Int) : Bool := picOk rows && decide (picW rows = rows.length) && decide (0 ≤ ordOf (picW rows)) && inB c 0 3
def alongR (rows : List ByteArray) (c : Int) : List Int := colR (alB (picBits rows) (picW rows) rows.length (visTo c (ordOf (picW rows)) (picW rows) (picW rows)))
theorem curveOk_zero (c : Int) : curveOkB c 0 = inB c 0 3 := by simp [curveOkB, inB]

set_option maxRecDepth 100000 in
set_option maxHeartbeats 2000000 in
theorem pictureAlong_any (A : Option Addr) (c : Nat) (rows : List ByteArray) (cv : Int) (w : World) (h : Rd w A (strs rows)) (hn : rows.length ≤ 1000000000) :
    Calls Try.prog 44 #[.agg #[.slice A rows.length c], .int .i64 cv] w (IntsRes w (if alongOk rows cv then alongR rows cv else []) (alongOk rows cv)) := by
  have B1 : Below w.heap.size w (w.alloc (.cells #[.slice A rows.length c] 26)) := Ext.more (Ext.refl _) _
  have IM := Lib.hid (imageOf_any A c rows _ (h.ext B1) hn)
  clear h
  have CO := Lib.hid (fun V => curveOk_any cv 0 V)
  rw [curveOk_zero] at CO
  cases hp : picOk rows
  · have F : Hid (alongOk rows cv = false) := by simp [Hid, alongOk, hp]
    have IH := Lib.hid (IM.out.mono (fun e w' hI => (show e = .returned (.tuple #[.pointer none, .bool false]) ∧ Below _ _ w' from ⟨hI.no hp, hI.ext⟩)))
    clear IM hp
    rw [F.out, if_neg (by decide)]
    go_enter Try.func44, Try.ntmps44
    go_wp2_with fail
    refine IH.out.mono ?_
    rintro e w1 ⟨rfl, hb⟩
    go_wp2_with fail
    go_quiet (fail)
    go_wp2_with fail
    go_ret2
    exact IntsRes.nil (Ext.drawN (Ext.then_ B1 hb) _)
  have IH := Lib.hid (IM.out.mono (fun e w' hI => (show (∃ p g, e = .returned (.tuple #[.pointer (some ⟨p, 0, none⟩), .bool true]) ∧ Img w' p g (picW rows) rows.length (picBits rows)) ∧ Below _ _ w' from ⟨(hI.yes hp).elim fun p h => h.elim fun g h => ⟨p, g, h.1, h.2.1⟩, hI.ext⟩)))
  obtain ⟨s1, s2, s3, s4⟩ := picOk_sizes hp
  clear IM
  by_cases hw : picW rows = rows.length
  · have q1 : ((picW rows : Int) != (rows.length : Int)) = false := by simp [hw]
    have OH := Lib.hid (fun V => orderOf_any (picW rows) V)
    by_cases ho : 0 ≤ ordOf (picW rows)
    · have q2 : ¬ ordOf (picW rows) < 0 := by omega
      have q2' : decide (ordOf (picW rows) < 0) = false := by simpa using q2
      cases hc : inB cv 0 3
      · have F : Hid (alongOk rows cv = false) := by simp [Hid, alongOk, hc]
        rw [hc] at CO
        rw [F.out, if_neg (by decide)]
        have HW := Lib.hid hw
        clear hw hc F hp
        generalize rows.length = H at *
        generalize picW rows = W at *
        generalize picBits rows = L at *
        generalize ordOf W = od at *
        go_enter Try.func44, Try.ntmps44
        go_wp2_with fail
        refine IH.out.mono ?_
        rintro e w1 ⟨⟨p, g, rfl, hm⟩, hb⟩
        have m0 := hm.hdr.cell 0
        have m1 := hm.hdr.cell 1
        have mlt := hm.hdr.lt
        simp at m0 m1
        go_wp2_with fail
        go_region_held3 (fun w' => w'.cell? ⟨p, 0, none⟩ = some (.int .i64 W) ∧ w'.cell? ⟨p, 1, none⟩ = some (.int .i64 H))
          (first | (go_split_ands; refine ⟨?_, ?_⟩ <;> exact (hb'.cell (p := ⟨_, _, none⟩) (by simpa)).trans (by assumption)) | go_keep)
          (first
            | (go_at_call 107; refine (OH.out _).mono ?_; rintro e w' ⟨rfl, hb'⟩)
            | (go_at_call 108; refine (CO.out _).mono ?_; rintro e w'' ⟨rfl, rfl⟩))
        go_wp2_with fail
        go_ret2
        exact IntsRes.nil (Ext.then_ B1 (Ext.then_ hb (Ext.undraw hb')))
      · have F : Hid (alongOk rows cv = true) := by simp only [Hid, alongOk, hc, hp, decide_eq_true hw, decide_eq_true ho]; rfl
        rw [hc] at CO
        rw [F.out, if_pos rfl]
        obtain ⟨o0, o4, os⟩ := ordOf_side ho
        obtain ⟨c0, c3⟩ := inB_iff.1 hc
        have AH := Lib.hid (fun p g V (hV : Img V p g (picW rows) rows.length (picBits rows)) => along_any p g _ _ _ cv (ordOf (picW rows)) V hV (by omega) (by omega) c0 c3 o0 o4 (picW rows) os)
        have hal : (alB (picBits rows) (picW rows) rows.length (visTo cv (ordOf (picW rows)) (picW rows) (picW rows))).length = picW rows * picW rows := by rw [alB_length, visTo_length]
        have hww : picW rows * picW rows ≤ 1000000 := Nat.le_trans (Nat.mul_le_mul (show picW rows ≤ 1000 by omega) (show picW rows ≤ 1000 by omega)) (by decide)
        have CH := Lib.hid (fun A cc V (hV : Rd V A (bools (alB (picBits rows) (picW rows) rows.length (visTo cv (ordOf (picW rows)) (picW rows) (picW rows))))) => colours_any A cc _ _ V hV hal hww)
        have E : Hid (colR (alB (picBits rows) (picW rows) rows.length (visTo cv (ordOf (picW rows)) (picW rows) (picW rows))) = alongR rows cv) := rfl
        rw [E.out] at CH
        have HW := Lib.hid hw
        clear hw hc F hp hal E os
        generalize alongR rows cv = RR at *
        generalize alB (picBits rows) (picW rows) rows.length (visTo cv (ordOf (picW rows)) (picW rows) (picW rows)) = al at *
        generalize rows.length = H at *
        generalize picW rows = W at *
        generalize picBits rows = L at *
        generalize ordOf W = od at *
        go_enter Try.func44, Try.ntmps44
        go_wp2_with fail
        refine IH.out.mono ?_
        rintro e w1 ⟨⟨p, g, rfl, hm⟩, hb⟩
        have m0 := hm.hdr.cell 0
        have m1 := hm.hdr.cell 1
        have mlt := hm.hdr.lt
        simp at m0 m1
        go_wp2_with fail
        go_region_held3 (fun w' => w'.cell? ⟨p, 0, none⟩ = some (.int .i64 W) ∧ w'.cell? ⟨p, 1, none⟩ = some (.int .i64 H))
          (first | (go_split_ands; refine ⟨?_, ?_⟩ <;> exact (hb'.cell (p := ⟨_, _, none⟩) (by simpa)).trans (by assumption)) | go_keep)
          (first
            | (go_at_call 107; refine (OH.out _).mono ?_; rintro e w' ⟨rfl, hb'⟩)
            | (go_at_call 108; refine (CO.out _).mono ?_; rintro e w'' ⟨rfl, rfl⟩))
        have HM := Lib.hid ((Img.drewN hm 1).ext hb')
        have m2 := (HM.out.hdr.cell 0)
        simp at m2
        have B2 := Ext.then_ B1 (Ext.then_ hb (Ext.undraw hb'))
        clear hm hb hb' m0 m1
        go_wp2_with fail
        refine (OH.out _).mono ?_
        rintro e w3 ⟨rfl, hb3⟩
        have B3 := Ext.then_ B2 hb3
        have HM3 := Lib.hid (HM.out.ext hb3)
        clear hb3 m2
        go_wp2_with fail
        refine (AH.out p g _ HM3.out).mono ?_
        rintro e w4 ⟨A4, c4, rfl, hown4, hb4⟩
        have B4 := Ext.then_ B3 hb4
        have R4 := Lib.hid (Rd.of_own hown4)
        clear hown4 hb4
        go_wp2_with fail
        refine (CH.out _ _ _ R4.out).mono ?_
        rintro e w5 ⟨A5, c5, rfl, hown5, hb5⟩
        have O5 := Lib.hid (RowO.low (RowO.of_own hown5) B4.size (Nat.le_refl _))
        have B5 := Ext.then_ B4 hb5
        clear hown5 hb5
        go_wp2_with fail
        go_ret2
        exact ⟨_, _, rfl, O5.out, B5⟩
    · have q2 : ordOf (picW rows) < 0 := by omega
      have q3 : ordOf (picW rows) = -1 := by
        unfold ordOf at q2 ⊢
        repeat' split
        all_goals simp_all
      rw [q3] at OH
      have F : Hid (alongOk rows cv = false) := by simp [Hid, alongOk, ho]
      rw [F.out, if_neg (by decide)]
      have HW := Lib.hid hw
      clear hw F hp ho q2 q3
      generalize rows.length = H at *
      generalize picW rows = W at *
      generalize picBits rows = L at *
      go_enter Try.func44, Try.ntmps44
      go_wp2_with fail
      refine IH.out.mono ?_
      rintro e w1 ⟨⟨p, g, rfl, hm⟩, hb⟩
      have m0 := hm.hdr.cell 0
      have m1 := hm.hdr.cell 1
      have mlt := hm.hdr.lt
      simp at m0 m1
      go_wp2_with fail
      refine wp_region_held_quiet (fun V => Below w1.heap.size w1 V) (by kernel_rfl) (by kernel_rfl) (Ext.refl _).drew ?_
      have ne : Nonempty (HeldW (fun V => Below w1.heap.size w1 V)) := ⟨⟨w1, Ext.refl _⟩⟩
      have k0 : ∀ i : HeldW (fun V => Below w1.heap.size w1 V), i.w.cell? ⟨p, 0, none⟩ = some (.int .i64 W) := fun i => (i.h.cell (p := ⟨p, 0, none⟩) mlt).trans m0
      have k1 : ∀ i : HeldW (fun V => Below w1.heap.size w1 V), i.w.cell? ⟨p, 1, none⟩ = some (.int .i64 H) := fun i => (i.h.cell (p := ⟨p, 1, none⟩) mlt).trans m1
      repeat (go_big_quiet_step ((go_at_call 107; exact Calls.above_of _ (OH.out _))))
      refine wpQuiet_nil ?_
      intro _ hw'
      obtain ⟨⟨w2, hb2⟩, rfl⟩ := hw'
      clear ne k0 k1
      go_wp2_with fail
      go_ret2
      exact IntsRes.nil (Ext.then_ B1 (Ext.then_ hb hb2))
  · have q1 : ((picW rows : Int) != (rows.length : Int)) = true := by simp; omega
    have F : Hid (alongOk rows cv = false) := by simp [Hid, alongOk, hw]
    rw [F.out, if_neg (by decide)]
    clear hw F hp
    generalize rows.length = H at *
    generalize picW rows = W at *
    generalize picBits rows = L at *
    go_enter Try.func44, Try.ntmps44
    go_wp2_with fail
    refine IH.out.mono ?_
    rintro e w1 ⟨⟨p, g, rfl, hm⟩, hb⟩
    have m0 := hm.hdr.cell 0
    have m1 := hm.hdr.cell 1
    have mlt := hm.hdr.lt
    simp at m0 m1
    go_wp2_with fail
    go_quiet (fail)
    go_wp2_with fail
    go_ret2
    exact IntsRes.nil (Ext.drawN (Ext.then_ B1 hb) _)
set_option maxRecDepth 100000 in
set_option maxHeartbeats 1000000 in
theorem orderS_any (n : Int) (w : World) : Calls Try.prog 104 #[.int .i64 n] w fun e w' => e = .returned (.int .i64 (ordOf n)) ∧ w = w' := by
  have SD : Hid (∀ k : Nat, k ≤ 4 → ∀ V, Calls Try.prog 112 #[.int .i64 k] V fun e w' => e = .returned (.int .i64 (side k)) ∧ V = w') := fun k hk V => sideO_any k V (by omega) (by omega)
  have R : Hid (∀ k : Nat, k ≤ 4 → side k = n → ordOf n = k) := by
    intro k hk he
    subst he
    have : k = 0 ∨ k = 1 ∨ k = 2 ∨ k = 3 ∨ k = 4 := by omega
    rcases this with e | e | e | e | e <;> subst e <;> decide
  have N : Hid ((∀ k : Nat, k < 5 → side k ≠ n) → ordOf n = -1) := by
    intro h
    have h0 := h 0 (by omega)
    have h1 := h 1 (by omega)
    have h2 := h 2 (by omega)
    have h3 := h 3 (by omega)
    have h4 := h 4 (by omega)
    have e0 : side (0 : Nat) = 1 := by decide
    have e1 : side (1 : Nat) = 2 := by decide
    have e2 : side (2 : Nat) = 4 := by decide
    have e3 : side (3 : Nat) = 8 := by decide
    have e4 : side (4 : Nat) = 16 := by decide
    rw [e0] at h0; rw [e1] at h1; rw [e2] at h2; rw [e3] at h3; rw [e4] at h4
    unfold ordOf
    rw [if_neg (by omega), if_neg (by omega), if_neg (by omega), if_neg (by omega), if_neg (by omega)]
  generalize ordOf n = r at *
  go_enter Try.func104, Try.ntmps104
  go_wp2_with fail
  go_loop [3] (fun i => ∃ k : Nat, k ≤ 5 ∧ i = .int .i64 k ∧ Hid (∀ j, j < k → side j ≠ n)) (fun i => 5 - (intOf i).toNat)
  case atStart => exact ⟨0, by omega, rfl, fun j h => absurd h (Nat.not_lt_zero _)⟩
  case round =>
    obtain ⟨k, hk, rfl, hno⟩ := hrel
    by_cases hlt : k < 5
    · have S1 := Lib.hid (SD.out k (by omega))
      have R1 := Lib.hid (R.out k (by omega))
      have i1 : (k : Int) ≤ 4 := by omega
      obtain ⟨v, hv⟩ : ∃ v, side (k : Int) = v := ⟨_, rfl⟩
      have HV := Lib.hid hv
      rw [hv] at S1 R1
      clear hv
      by_cases he : v = n
      · have E := Lib.hid (R1.out he)
        have t0 : (v == n) = true := by simp [he]
        clear he
        go_wp2_with (go_at_call 112; refine (S1.out _).mono ?_; rintro e w' ⟨rfl, rfl⟩)
        go_ret
        exact ⟨ret_int E.out.symm, rfl⟩
      · have t0 : (v == n) = false := by simp [he]
        have HE := Lib.hid he
        clear he
        go_wp2_with (go_at_call 112; refine (S1.out _).mono ?_; rintro e w' ⟨rfl, rfl⟩)
        go_round
        case rel => exact ⟨k + 1, by omega, by go_num, fun j hj => (by
          rcases Nat.lt_succ_iff_lt_or_eq.1 hj with h | h
          · exact hno j h
          · rw [h, HV.out]; exact HE.out)⟩
        case measure => simp [intOf]; omega
    · obtain rfl : k = 5 := by omega
      have E := Lib.hid (N.out hno)
      clear hno
      go_wp2_with fail
      go_ret
      exact ⟨ret_int E.out.symm, rfl⟩
set_option maxRecDepth 100000 in
set_option maxHeartbeats 2000000 in
theorem alongS_any (p : Nat) (A0 : Option Addr) (cc : Nat) (rows : List ByteArray) (c o : Int) (w : World) (h : PicAt w p A0 cc rows) (hok : picOk rows = true) (hc0 : 0 ≤ c) (hc3 : c ≤ 3) (h0 : 0 ≤ o) (h4 : o ≤ 4) (s : Nat) (hs : side o = s) :
    Calls Try.prog 106 #[.pointer (some ⟨p, 0, none⟩), .int .i64 c, .int .i64 o] w fun e w' => ∃ A' c', e = .returned (.slice A' (colR (alB (picBits rows) (picW rows) rows.length (visTo c o s s))).length c') ∧ w'.ownsRow w.heap.size 2 1 (.slice A' (colR (alB (picBits rows) (picW rows) rows.length (visTo c o s s))).length c') (colR (alB (picBits rows) (picW rows) rows.length (visTo c o s s))).length (ints (colR (alB (picBits rows) (picW rows) rows.length (visTo c o s s)))) ∧ Below w.heap.size w w' := by
  have VH := Lib.hid (spotsS_any c o w hc0 hc3 h0 h4 s hs)
  have hS2 := side_le h0 h4
  rw [hs] at hS2
  have hss : s * s ≤ 256 := Nat.le_trans (Nat.mul_le_mul (show s ≤ 16 by omega) (show s ≤ 16 by omega)) (by decide)
  have HL := Lib.hid (visTo_length c o s s)
  have BH := Lib.hid (fun x y V (hV : Below w.heap.size w V) => black_any p A0 cc rows x y V (h.ext hV) hok)
  clear h hs hok
  generalize visTo c o s s = vis at *
  generalize hn : s * s = n at *
  clear hn
  have AL : Hid ((alB (picBits rows) (picW rows) rows.length vis).length = n ∧ ∀ k (hk : k < vis.length) (hk2 : k < (alB (picBits rows) (picW rows) rows.length vis).length), (alB (picBits rows) (picW rows) rows.length vis)[k] = bit (picBits rows) (picW rows) rows.length vis[k].1 vis[k].2) := by
    refine ⟨by simp [alB, HL.out], fun k hk hk2 => ?_⟩
    simp [alB]
  generalize alB (picBits rows) (picW rows) rows.length vis = bs at *
  have CR : Hid (colR bs = (colTo bs n).1) := by rw [Hid, ← AL.out.1]; rfl
  have CB := Lib.hid (fun k (h : k ≤ n) => colTo_bd bs k (by have := AL.out.1; omega))
  have CS := Lib.hid (fun k (h : k < bs.length) => colTo_succ h)
  have C0 := Lib.hid (colTo_zero bs)
  rw [CR.out]
  go_enter Try.func106, Try.ntmps106
  go_wp2_with fail
  refine VH.out.mono ?_
  rintro e w1 ⟨rfl, hV, hb1⟩
  have hrow0 := World.ownsRow_lit (e := 2) (size := 1) w1 #[.int .i64 0] 1 (Nat.le_refl _) (by decide) rfl
  have BM : Below w.heap.size w (w1.alloc (.cells #[.int .i64 0] 2)) := Ext.more hb1 _
  have V1 := hV.more (.cells #[.int .i64 0] 2)
  have hvl := hV.lt
  clear hV hb1
  go_wp2_with fail
  generalize w1.alloc (.cells #[.int .i64 0] 2) = w0 at *
  go_loopw [8, 9, 10] (fun v f i wr => ∃ (k gb cb : Nat), k ≤ n ∧ i = .int .i64 k ∧ v = .slice (some ⟨gb, 0, none⟩) (colTo bs k).1.length cb ∧ f = .bool (colTo bs k).2 ∧ wr.ownsRow w1.heap.size 2 1 (.slice (some ⟨gb, 0, none⟩) (colTo bs k).1.length cb) (colTo bs k).1.length (ints (colTo bs k).1) ∧ Blk wr w.heap.size 114 (spC vis) ∧ Below w.heap.size w wr) (fun _ _ i _ => n - (intOf i).toNat)
  case atStart => exact ⟨0, w1.heap.size, 1, Nat.zero_le _, rfl, by rw [C0.out]; rfl, by rw [C0.out], by rw [C0.out]; exact hrow0, V1, BM⟩
  case round =>
    obtain ⟨k, gb, cb, hk, rfl, rfl, rfl, hown, hV, hb⟩ := hrel
    clear hrow0 BM V1
    by_cases hlt : k < n
    · have hz1 := hb.size
      have hkb : k < bs.length := by have := AL.out.1; omega
      have hkv : k < vis.length := by rw [HL.out]; exact hlt
      obtain ⟨p1, p2⟩ := hV.spots.2 k hkv
      obtain ⟨b1, b2, b3⟩ := CB.out k (by omega)
      have S := Lib.hid (CS.out k hkb)
      have eb := AL.out.2 k hkv hkb
      rw [eb] at S
      have BK := Lib.hid (fun m => BH.out vis[k].1 vis[k].2 (wr.drewN m) (Ext.drawN hb m))
      have HVB := Lib.hid hV
      clear eb hV
      generalize vis[k] = q at *
      obtain ⟨qx, qy⟩ := q
      simp only at p1 p2 BK S
      generalize bit (picBits rows) (picW rows) rows.length qx qy = b at *
      obtain ⟨st, hst⟩ : ∃ st, colTo bs k = st := ⟨_, rfl⟩
      rw [hst] at hown b1 b2 b3 S ⊢
      clear hst
      obtain ⟨l, now⟩ := st
      simp only at hown b1 b2 b3 ⊢
      have hgl := (hown.lt gb rfl).1
      have hgl2 := (hown.lt gb rfl).2
      have i0 : (0 : Int) ≤ (k : Int) := by omega
      have i1 : (k : Int) < (n : Int) := by omega
      have lastb : ∀ (l : List Int), 0 < l.length → (∀ i (h : i < l.length), 0 ≤ l[i] ∧ l[i] ≤ (k : Int)) → 0 ≤ l.getD (l.length - 1) 0 ∧ l.getD (l.length - 1) 0 ≤ (k : Int) := by
        intro l h1 h2
        rw [List.getD_eq_getElem?_getD, List.getElem?_eq_getElem (by omega)]
        exact h2 _ _
      by_cases he : b = now
      · subst he
        have E : Hid (colTo bs (k + 1) = (incL l, b)) := by rw [Hid, S.out]; simp [colS]
        obtain ⟨m, hm⟩ : ∃ m, l.length = m := ⟨_, rfl⟩
        have lb := lastb l b1 b3
        have k1 := (hown.cellAt (l.length - 1) (by omega)).trans (ints_last b1)
        have f1 := hown.frozenAt (l.length - 1)
        have st := hown.stored (l.length - 1) (.int .i64 (l.getD (l.length - 1) 0 + 1))
        have hset := ints_inc b1
        rw [hset] at st
        rw [hm] at k1 f1 lb hown b1 b2 st ⊢
        have LI : Hid ((incL l).length = m) := by rw [Hid, incL_length, hm]
        have HST := Lib.hid st
        have hne := own_blk_ne hown HVB.out (by decide)
        have HNE : Hid (gb ≠ w.heap.size) := fun e => hne (by rw [e]; rfl)
        generalize l.getD (m - 1) 0 = lv at *
        have j0 : (0 : Int) ≤ (m : Int) - 1 := by omega
        have j1 : (m : Int) - 1 < (m : Int) := by omega
        have j2 : ((m : Int) - 1).toNat = m - 1 := by omega
        clear hset st hown hm b3 lastb S hne
        cases b
        all_goals
          go_wp2_with fail
          go_quiet ((go_at_call 126; exact Calls.quiet_of_same ((BK.out _).mono fun _ _ ⟨h, k⟩ => ⟨h, k.symm⟩)))
          go_wp2_with fail
          go_roundw
          case rel => exact ⟨k + 1, gb, cb, by omega, by go_num, by rw [E.out]; simp only [LI.out], by rw [E.out], by rw [E.out]; simp only [LI.out]; exact HST.out.1, (Blk.apart (w := World.drewN wr nq) HVB.out (p := ⟨gb, _, none⟩) (Ne.symm HNE.out) _), (Ext.drawN hb nq).setCell (p := ⟨gb, _, none⟩) (by show w.heap.size ≤ gb; omega) _⟩
          case measure => simp [intOf]; omega
      · have E : Hid (colTo bs (k + 1) = (incL (l ++ [0]), b)) := by rw [Hid, S.out]; simp [colS, he]
        obtain ⟨m, hm⟩ : ∃ m, l.length = m := ⟨_, rfl⟩
        have hm1 : (l ++ [0]).length = m + 1 := by simp [hm]
        have il := ints_last (l := l ++ [0]) (by omega)
        have hset := ints_inc (l := l ++ [0]) (by omega)
        have g0 : (l ++ [0]).getD m 0 = (0 : Int) := by rw [← hm]; simp [List.getD_eq_getElem?_getD]
        rw [hm1, Nat.add_sub_cancel, g0] at il hset
        have LI : Hid ((incL (l ++ [0])).length = m + 1) := by rw [Hid, incL_length, hm1]
        have EA : Hid (ints (l ++ [0]) = ints l ++ [.int .i64 0]) := by simp [Hid, ints]
        rw [hm] at hown b1 b2 ⊢
        obtain rfl : now = !b := by cases b <;> cases now <;> simp_all
        have IL := Lib.hid (And.intro il hset)
        generalize incL (l ++ [0]) = l2 at *
        have hzb := hb.size
        clear hm hm1 il hset g0 lastb S b3 he
        cases b
        all_goals
          go_wp2_with fail
          go_quiet ((go_at_call 126; exact Calls.quiet_of_same ((BK.out _).mono fun _ _ ⟨h, k⟩ => ⟨h, k.symm⟩)))
          have O2 : (World.drewN wr nq).ownsRow w1.heap.size 2 1 (.slice (some ⟨gb, 0, none⟩) m cb) m (ints l) := hown
          have V2 : Blk (World.drewN wr nq) w.heap.size 114 (spC vis) := HVB.out
          have hb2 : Below w.heap.size w (World.drewN wr nq) := Ext.drawN hb nq
          have hz2 : (World.drewN wr nq).heap.size = wr.heap.size := rfl
          rw [← hz2] at hgl2 hzb
          have hne := own_blk_ne O2 V2 (by decide)
          have HX := Lib.hid (And.intro V2 (And.intro hb2 hne))
          clear V2 hb2 hne hz2
          generalize World.drewN wr nq = w2 at *
          go_wp2_with (at_builtin; refine wpList_app intT (by rfl) _ _ (by rfl) w1.heap.size (.slice (some ⟨gb, 0, none⟩) m cb) m (ints l) (by rfl) (O2.alloc _) w2.heap.size #[.int .i64 0] (by rfl) (heap_alloc_new _ _) rfl (by simp [Value.oneCell']) (by omega) (by simp; omega) ?_; intro g3 cap3 w3 hown3 hgrow3 hat3 hlt3; have hown4 : w3.ownsRow w1.heap.size 2 1 (.slice (some ⟨g3, 0, none⟩) (m + 1) cap3) (m + 1) (ints (l ++ [0])) := (by rw [EA.out]; simpa using hown3); have B3 : Below w.heap.size w w3 := (HX.out.2.1.alloc HX.out.2.1.size _).grown hgrow3 (by simp; omega) (fun z hz => by have := (O2.lt z hz).1; omega); have V3 : Blk w3 w.heap.size 114 (spC vis) := (HX.out.1.more _).by_grown hgrow3 (fun e => HX.out.2.2 e.symm); have k1 := (hown4.cellAt m (by omega)).trans IL.out.1; have f1 := hown4.frozenAt m; have st := hown4.stored m (.int .i64 (0 + 1)); rw [IL.out.2] at st; have HST := Lib.hid st; have g3l := (hown4.lt g3 rfl).1; have HNE : Hid (g3 ≠ w.heap.size) := (by rcases hat3 with h | h; exact fun e => HX.out.2.2 (by rw [h, e]); simp at h; exact fun e => by omega); have HV3 := Lib.hid V3; have HB3 := Lib.hid B3; clear st hown3 hown4 hgrow3 hat3 V3 B3)
          go_roundw
          case rel => exact ⟨k + 1, g3, cap3, by omega, by go_num, by rw [E.out]; simp only [LI.out], by rw [E.out], by rw [E.out]; simp only [LI.out]; exact HST.out.1, HV3.out.apart (p := ⟨g3, _, none⟩) (Ne.symm HNE.out) _, HB3.out.setCell (p := ⟨g3, _, none⟩) (by show w.heap.size ≤ g3; omega) _⟩
          case measure => simp [intOf]; omega
    · obtain rfl : k = n := by omega
      go_wp2_with fail
      go_ret
      exact ⟨_, _, rfl, own_base hown (by omega), hb⟩
end Go.Proofs.Ytdbelajgndclfaa
