/- The reference's visit of the parts of a picture: its walk. -/
import Derived.Test.YtdhajndmebnknaaTopJ
import Derived.Test.YtdhajndmebnknaaTopW
namespace Go.Proofs.Ytdhajndmebnknaa
open Go.RowKit

/-- What a visit of a part answers, in memory. -/
def NdRes (P : Pc) (o : Option Cell) (a : Cell) (s0 : Cell → Bool) (n gs W H : Nat) (w : World) (e : Ending) (w' : World) : Prop :=
  ∃ c d s, e = .returned (.tuple #[.string ⟨List.toArray c⟩, .int .i64 (d : Nat)]) ∧ P.Ta o a s0 n c d s ∧ Blk w' gs 4 (boolC (bTo (sO W s) (W * H))) ∧ Chg (fun b => b = gs ∨ w.heap.size ≤ b) w w'
/-- All neighbours of the first pixels of a part. -/
def Dni (P : Pc) (o : Option Cell) (a : Cell) (SP : List Cell) (i : Nat) (K : List Kid) : Prop := ∀ j (h : j < SP.length), j < i → ∀ q, A4 SP[j] q → Fnd P o a K q
theorem Dni.more {P : Pc} {o : Option Cell} {a : Cell} {SP : List Cell} {i : Nat} {K : List Kid} (h : Dni P o a SP i K) (e : Kid) : Dni P o a SP i (K ++ [e]) := fun j hj hi q hq => (h j hj hi q hq).more e
theorem take_or {SP : List Cell} {s : Cell → Bool} {k : Nat} (hk : k < SP.length) : (fun z => (s z || decide (z ∈ SP.take k)) || decide (z = SP[k])) = fun z => s z || decide (z ∈ SP.take (k + 1)) := by
  funext z
  have e : z ∈ SP.take (k + 1) ↔ z ∈ SP.take k ∨ z = SP[k] := by rw [List.take_succ_eq_append_getElem hk, List.mem_append, List.mem_singleton]
  rw [Bool.eq_iff_iff]
  simp only [Bool.or_eq_true, decide_eq_true_eq, e, or_assoc]
set_option maxRecDepth 100000 in
set_option maxHeartbeats 8000000 in
theorem nodeS_any (mp ga cc gs W H : Nat) (L : List Bool) (hL : L.length = W * H) (hW0 : 0 < W) (hH0 : 0 < H) (hW : W ≤ 18) (hH : H ≤ 18) (hmg : mp ≠ gs) (hag : ga ≠ gs) : ∀ (n : Nat), n ≤ 400 → ∀ (o : Option Cell) (ax ay : Nat) (s0 R : Cell → Bool) (w : World),
    PicAt w mp (some ⟨ga, 0, none⟩) cc (rowsTo L W H) → ga < w.heap.size → Blk w gs 4 (boolC (bTo (sO W s0) (W * H))) → (∀ z, R z = true ↔ (pcI L W H).Same ((ax : Int), (ay : Int)) z) →
    (pcI L W H).Vp o ((ax : Int), (ay : Int)) (fun z => (s0 z || R z) = true) → W * H + 1 ≤ n + (pcI L W H).cnt (fun z => s0 z || R z) →
    Calls Try.prog 47 #[.pointer (some ⟨mp, 0, none⟩), .agg #[.int .i64 ax, .int .i64 ay], .bool ((pcI L W H).col ((ax : Int), (ay : Int))), .slice (some ⟨gs, 0, none⟩) (W * H) (W * H)] w (NdRes (pcI L W H) o ((ax : Int), (ay : Int)) (fun z => s0 z || R z) n gs W H w) := by
  have hWH : W * H ≤ 324 := Nat.le_trans (Nat.mul_le_mul hW hH) (by decide)
  intro n
  induction n with
  | zero =>
    intro _ o ax ay s0 R w _ _ _ _ _ hf
    have : (pcI L W H).cnt (fun z => s0 z || R z) ≤ W * H := cnt_all
    omega
  | succ n ih =>
    intro hn o ax ay s0 R w hP hga hS hR hV hfuel
    have IH := Lib.hid (ih (by omega))
    clear ih
    obtain ⟨P, hPe⟩ : ∃ P, pcI L W H = P := ⟨_, rfl⟩
    have HP := Lib.hid hPe
    have hLw : (rowsTo L W H).length = H := rowsTo_length _ _ _
    obtain ⟨c, hc⟩ : ∃ c, (pcI L W H).col ((ax : Int), (ay : Int)) = c := ⟨_, rfl⟩
    have hok : okC L W H c ((ax : Int), (ay : Int)) = true := okC_iff.2 ⟨hV.has, hc⟩
    have CE : Hid (∀ L', L'.length = W * H → picOw (rowsTo L' W H) = true ∧ picBits (rowsTo L' W H) = L' ∧ picW (rowsTo L' W H) = W ∧ (rowsTo L' W H).length = H) := fun L' h => ⟨told_ow hW0 hW hH0 hH, told_bits hH0 h, told_w hH0, rowsTo_length _ _ _⟩
    have hCL : (colL L c).length = W * H := by rw [colL_len, hL]
    have SPM : Hid (∀ z, z ∈ spC2T L W H c ((ax : Int), (ay : Int)) ↔ R z = true) := fun z => (spT_mem hL (by omega) (by omega) hok).trans (hR z).symm
    have SPL : Hid ((spC2T L W H c ((ax : Int), (ay : Int))).length ≤ 324) := Nat.le_trans (spT_len L W H c _) hWH
    have WD := Lib.hid (fun V (hV : PicAt V mp (some ⟨ga, 0, none⟩) cc (rowsTo L W H)) => width_any mp (some ⟨ga, 0, none⟩) cc (rowsTo L W H) V hV (by omega))
    rw [(CE.out L hL).2.2.1] at WD
    have PT := Lib.hid (fun m A q V (hV : PicAt V m A q (rowsTo (colL L c) W H)) => partSW_any (stT_C c) m A q (rowsTo (colL L c) W H) (colL L c) W H V hV (CE.out _ hCL).1 (CE.out _ hCL).2.1 (CE.out _ hCL).2.2.1 (CE.out _ hCL).2.2.2 ax ay (by rw [okI_col hL]; exact hok))
    have hRL : (rchL (stC c) (colL L c) W H ((ax : Int), (ay : Int))).length = W * H := bTo_length _ _
    have SPT : Hid (∀ m A q V, PicAt V m A q (rowsTo (rchL (stC c) (colL L c) W H ((ax : Int), (ay : Int))) W H) → Calls Try.prog 81 #[.pointer (some ⟨m, 0, none⟩)] V fun e w' => ∃ g c', e = .returned (.slice (some ⟨g, 0, none⟩) (spC2T L W H c ((ax : Int), (ay : Int))).length c') ∧
        w'.ownsRow V.heap.size 50 2 (.slice (some ⟨g, 0, none⟩) (spC2T L W H c ((ax : Int), (ay : Int))).length c') (spC2T L W H c ((ax : Int), (ay : Int))).length (spL (spC2T L W H c ((ax : Int), (ay : Int)))) ∧ Below V.heap.size V w') :=
      fun m A q V hV => spotsSW_any m A q _ _ W H V hV (CE.out _ hRL).1 (CE.out _ hRL).2.1 (CE.out _ hRL).2.2.1 (CE.out _ hRL).2.2.2
    have IV := Lib.hid (fun V (hV : PicAt V mp (some ⟨ga, 0, none⟩) cc (rowsTo L W H)) => invertSW_any mp (some ⟨ga, 0, none⟩) cc (rowsTo L W H) L W H V hV (CE.out _ hL).1 (CE.out _ hL).2.1 (CE.out _ hL).2.2.1 (CE.out _ hL).2.2.2)
    have HS := Lib.hid (fun x y V (hV : PicAt V mp (some ⟨ga, 0, none⟩) cc (rowsTo L W H)) => hasS_any mp (some ⟨ga, 0, none⟩) cc (rowsTo L W H) x y V hV (by omega) (by rw [(CE.out L hL).2.2.1]; omega) (by omega))
    rw [(CE.out L hL).2.2.1, hLw] at HS
    rw [hPe] at hR hV hfuel hc ⊢
    have T0 := Lib.hid (Pc.Ts.start (n := n) hV)
    have hHas : Hid (∀ z, P.has z ↔ hasB W H z.1 z.2 = true) := fun z => by rw [← HP.out]; exact has_iff
    have hCol : Hid (∀ z, P.col z = bit L W H z.1 z.2) := fun z => by rw [← HP.out]; rfl
    have HR := Lib.hid hR
    have HFU := Lib.hid hfuel
    have HV := Lib.hid hV
    have HC := Lib.hid hc
    have HOK := Lib.hid hok
    rw [hc]
    have CB := Lib.hid (fun s => cnt_all (P := P) (s := s))
    have HWH := Lib.hid hWH
    have HML : mp < w.heap.size := hP.lt
    have HSL : gs < w.heap.size := hS.lt
    have kp := hP.cell
    rw [hLw] at kp
    -- the spot and the copy of the picture
    have T1 := Blk.made w 50 #[.int .i64 ax, .int .i64 ay]
    have B1 := Ext.more (Ext.refl w) (.cells #[.int .i64 ax, .int .i64 ay] 50)
    obtain ⟨w1, hw1⟩ : ∃ w1, w.alloc (.cells #[.int .i64 ax, .int .i64 ay] 50) = w1 := ⟨_, rfl⟩
    have z1 : w1.heap.size = w.heap.size + 1 := by rw [← hw1]; simp
    rw [hw1] at T1 B1
    have P1 := hP.ext B1
    have k1 := P1.cell
    rw [hLw] at k1
    have W1 := Lib.hid (WD.out _ P1)
    have HW1 := Lib.hid hw1
    have HRW : Hid (rowsTo L W H = rowsTo (colL L true) W H) := rfl
    have HRF : Hid (L.map (fun b => !b) = colL L false) := rfl
    have HLW := Lib.hid hLw
    have HPP := Lib.hid hP
    have HSS := Lib.hid hS
    have HZ1 := Lib.hid z1
    clear hR hV hfuel hc hok hPe hWH hLw hP hS hw1 z1 hRL hCL kp
    go_enter Try.func47, Try.ntmps47
    go_upto_region 1 with fail
    try simp only [HW1.out]
    go_upto_region 2 with (go_at_call 48; refine W1.out.mono ?_; rintro e w' ⟨rfl, rfl⟩)
    have B2 := Ext.more B1 (.cells #[.slice (some ⟨ga, 0, none⟩) H cc] 28)
    have T2 := T1.more (.cells #[.slice (some ⟨ga, 0, none⟩) H cc] 28)
    have N2 := Blk.made w1 28 #[.slice (some ⟨ga, 0, none⟩) H cc]
    rw [HZ1.out] at N2
    have P2 := P1.ext (Ext.more (Ext.refl w1) (.cells #[.slice (some ⟨ga, 0, none⟩) H cc] 28))
    obtain ⟨w2, hw2⟩ : ∃ w2, w1.alloc (.cells #[.slice (some ⟨ga, 0, none⟩) H cc] 28) = w2 := ⟨_, rfl⟩
    rw [hw2] at B2 T2 N2 P2
    have z2 : w2.heap.size = w.heap.size + 2 := by rw [← hw2]; simp [HZ1.out]
    have HW2 := Lib.hid hw2
    have HZ2 := Lib.hid z2
    have I2 := Lib.hid (IV.out _ P2)
    clear hw2 W1 P1 T1 B1 z2
    go_upto_if 31 with fail
    try simp only [HW2.out, HZ1.out]
    clear k1
    go_cut [10] (fun s10 wx => s10 = .int .i64 W ∧ ∃ (A5 : Option Addr) (q5 : Nat), PicAt wx (w.heap.size + 1) A5 q5 (rowsTo (colL L c) W H) ∧ Blk wx w.heap.size 50 #[.int .i64 ax, .int .i64 ay] ∧ Below w.heap.size w wx)
    case first =>
      have c0 := N2.cell 0
      have f0 := N2.free 0
      simp at c0
      cases c
      case true =>
        rw [HRW.out] at P2
        have X : Hid (∃ (A5 : Option Addr) (q5 : Nat), PicAt w2 (w.heap.size + 1) A5 q5 (rowsTo (colL L true) W H) ∧ Blk w2 w.heap.size 50 #[.int .i64 ax, .int .i64 ay] ∧ Below w.heap.size w w2) :=
          ⟨some ⟨ga, 0, none⟩, cc, ⟨N2.lt, by rw [rowsTo_length]; exact c0, P2.rd⟩, T2, B2⟩
        clear c0 f0 T2 P2 B2 N2
        go_wp2_with fail
        go_meet
        exact ⟨rfl, X.out⟩
      case false =>
        rw [HRF.out] at I2
        go_wp2_with (go_at_call 79; refine I2.out.mono ?_; rintro e w3 ⟨A3, c3, rfl, hown3, hb3⟩
                     have N3 := N2.under hb3 N2.lt
                     have c3' := N3.cell 0
                     have f3 := N3.free 0
                     simp at c3')
        have zz := hb3.size
        have X : Hid (∃ (A5 : Option Addr) (q5 : Nat), PicAt (w3.setCell ⟨w.heap.size + 1, 0, none⟩ (.slice A3 H c3)) (w.heap.size + 1) A5 q5 (rowsTo (colL L false) W H) ∧ Blk (w3.setCell ⟨w.heap.size + 1, 0, none⟩ (.slice A3 H c3)) w.heap.size 50 #[.int .i64 ax, .int .i64 ay] ∧ Below w.heap.size w (w3.setCell ⟨w.heap.size + 1, 0, none⟩ (.slice A3 H c3))) := by
          have S3 := N3.store 0 (.slice A3 H c3)
          refine ⟨A3, c3, ⟨S3.lt, ?_, ?_⟩, (T2.under hb3 T2.lt).apart (by simp) _, (Ext.then_ B2 hb3).setCell (p := ⟨w.heap.size + 1, 0, none⟩) (Nat.le_succ _) _⟩
          · rw [rowsTo_length]
            have := S3.cell 0
            simpa using this
          · exact Rd.of_own (ownsRow_setCell_below hown3 (a := ⟨w.heap.size + 1, 0, none⟩) N2.lt _)
        clear hown3 hb3 N3 c3' f3 c0 f0 T2 P2 B2 N2
        go_wp2_with fail
        go_meet
        exact ⟨rfl, X.out⟩
    case rest =>
      obtain ⟨rfl, A5, q5, P5, T5, B5⟩ := hcut
      clear P2 N2 T2 B2 I2
      have k50 := T5.cell 0
      have k51 := T5.cell 1
      simp at k50 k51
      have P5' := Lib.hid (PT.out _ _ _ _ P5)
      clear PT
      go_wp2_with fail
      refine P5'.out.mono ?_
      rintro e w6 ⟨q6, A6, c6, rfl, P6, hb6⟩
      have S6 := Lib.hid (SPT.out _ _ _ _ P6)
      have B6 := Ext.then_ B5 hb6
      clear SPT P6 hb6 P5 T5 B5 k50 k51 P5'
      generalize hSP : spC2T L W H c ((ax : Int), (ay : Int)) = SP at *
      clear hSP
      have spb : SP.length ≤ 324 := SPL.out
      go_wp2_with fail
      refine S6.out.mono ?_
      rintro e w7 ⟨gp, cp, rfl, O7, hb7⟩
      have B7 := Ext.then_ B6 hb7
      have O7' := Lib.hid (own_base O7 B6.size)
      have S7 := HSS.out.under B7 HSL
      have gl := (O7'.out.lt gp rfl).1
      have gl2 := (O7'.out.lt gp rfl).2
      have HB7 := Lib.hid B7
      clear O7 hb7 B6 S6 B7
      have SX : Hid (∀ k (hk : k < SP.length), ∃ x y : Nat, x < W ∧ y < H ∧ SP[k] = ((x : Int), (y : Int)) ∧ P.Same ((ax : Int), (ay : Int)) SP[k]) := fun k hk => by
        have h1 := (HR.out _).1 ((SPM.out _).1 (List.getElem_mem hk))
        have h2 := hasB_iff.1 ((hHas.out _).1 h1.hasR)
        generalize SP[k] = q at *
        obtain ⟨q1, q2⟩ := q
        simp only at h2
        refine ⟨q1.toNat, q2.toNat, by omega, by omega, ?_, h1⟩
        rw [Prod.mk.injEq]
        omega
      have F0 : Hid ((fun z => s0 z || decide (z ∈ SP.take 0)) = s0) := by funext z; simp
      have F1 : Hid ((fun z => s0 z || decide (z ∈ SP.take SP.length)) = fun z => s0 z || R z) := by
        funext z
        rw [List.take_length]
        have : decide (z ∈ SP) = R z := by rw [Bool.eq_iff_iff, decide_eq_true_eq, SPM.out]
        rw [this]
      rw [← F0.out] at S7
      go_wp2_with fail
      go_loopw [14] (fun iv wr => ∃ k : Nat, k ≤ SP.length ∧ iv = .int .i64 k ∧ Blk wr gs 4 (boolC (bTo (sO W fun z => s0 z || decide (z ∈ SP.take k)) (W * H))) ∧ Chg (fun b => b = gs) w7 wr) (fun iv _ => SP.length - (intOf iv).toNat)
      case atStart => exact ⟨0, Nat.zero_le _, rfl, S7, Chg.refl _ _⟩
      case round =>
        obtain ⟨k, hk, rfl, S, C⟩ := hrel
        clear S7
        have O := C.own O7'.out (fun q hq => by have e : q = gp := by simpa [Value.ownBlock] using hq.symm
                                                omega)
        by_cases hlt : k < SP.length
        · obtain ⟨x, y, hx, hy, e, hsame⟩ := SX.out k hlt
          have sp := own_spots O rfl
          obtain ⟨c1, c2⟩ := sp.2 k hlt
          rw [e] at c1 c2
          simp only at c1 c2
          have FT := Lib.hid (take_or (s := s0) hlt)
          have SPU := Lib.hid (fun k => seen_put (H := H) (y := y) (show Blk (wr.drewN k) gs _ _ from S) hx)
          rw [← e] at SPU
          rw [FT.out] at SPU
          have cs := seen_cell S hx hy
          have fs := S.free (y * W + x)
          have sl := S.lt
          have hpl : y * W + x < W * H := pl_lt hx hy
          have HE := Lib.hid e
          have u1 : IntKind.i64.wrap ((y : Int) * W) = (y : Int) * W := IntWalk.i64_in _ (by have := HWH.out; rw [← Int.natCast_mul]; omega)
          have u2 : IntKind.i64.wrap ((y : Int) * W + x) = ((y * W + x : Nat) : Int) := by have := HWH.out; rw [← Int.natCast_mul, ← Int.natCast_add]; exact IntWalk.i64_in _ (by omega)
          obtain ⟨pl, hpe⟩ : ∃ pl, y * W + x = pl := ⟨_, rfl⟩
          rw [hpe] at cs fs u2 hpl SPU
          have u3 : (0 : Int) ≤ (pl : Int) := by omega
          have u4 : (pl : Int) < ((W * H : Nat) : Int) := by omega
          have j0 : (0 : Int) ≤ (k : Int) := by omega
          have j1 : (k : Int) < (SP.length : Int) := by omega
          have HCG := Lib.hid C
          clear S C O sp e hpe hsame
          go_wp2_with fail
          refine wp_region_quiet_tail 15 (by kernel_rfl) (by kernel_rfl) ?_
          simp only [List.take_succ_cons, List.take_zero, List.drop_succ_cons, List.drop_zero]
          repeat (go_big_quiet_step (fail))
          refine wpQuiet_nil ?_
          intro _ hw'
          obtain ⟨nq2, hw''⟩ := hw'
          subst hw''
          have cs3 : (wr.drewN nq2).cell? ⟨gs, pl, none⟩ = some _ := cs
          have fs3 : (wr.drewN nq2).frozen? ⟨gs, pl, none⟩ = false := fs
          have SP3 := Lib.hid (SPU.out nq2)
          have C3 : Chg (fun b => b = gs) w7 ((wr.drewN nq2).setCell ⟨gs, pl, none⟩ (.bool true)) := (HCG.out.drewN nq2).store (p := ⟨gs, pl, none⟩) rfl _
          have HC3 := Lib.hid C3
          clear SPU cs fs C3
          generalize wr.drewN nq2 = w8 at *
          go_wp2_with fail
          go_roundw
          case rel => exact ⟨k + 1, by omega, by go_num, SP3.out, HC3.out⟩
          case measure => simp [intOf]; omega
        · obtain rfl : k = SP.length := by omega
          rw [F1.out] at S
          have E9 := Ext.more (Ext.refl wr) (.cells #[] 9)
          have z7 := HB7.out.size
          have zr := C.size
          have Oc := own_base (World.ownsRow_lit (e := 9) (size := 1) wr #[] 0 (Nat.le_refl _) (by decide) rfl) (show w.heap.size ≤ wr.heap.size by omega)
          obtain ⟨w9, hw9⟩ : ∃ w9, wr.alloc (.cells #[] 9) = w9 := ⟨_, rfl⟩
          rw [hw9] at E9 Oc
          have HW9 := Lib.hid hw9
          have z9 := E9.size
          have J0 : Hid (∀ V, Blk V w9.heap.size 50 (spC stepL) → Below w9.heap.size w9 V → NsJ w mp ga cc gs (rowsTo L W H) W H gp w9.heap.size cp SP stepL wr.heap.size 0 [] (fun z => s0 z || R z) V) := fun V h4 h5 => by
            have E10 : Below wr.heap.size wr V := Ext.then_ E9 h5
            have C0 : Chg (fun b => b = gs ∨ w.heap.size ≤ b) w V := (((Chg.of_below HB7.out).mono (fun b hb => .inr hb)).trans (C.mono (fun b hb => .inl hb))).trans ((Chg.of_below E10).mono (fun b hb => .inr (by omega)))
            exact ⟨HPP.out.chgT C0 (by omega) (by omega), S.under E10 S.lt, own_ext E10 O, h4, own_ext h5 (by simpa [srtC] using Oc), C0, ⟨HML, hmg⟩, ⟨hga, hag⟩, HSL, gl, by omega⟩
          have DN0 : Hid (Dni P o ((ax : Int), (ay : Int)) SP 0 []) := fun _ _ h => absurd h (Nat.not_lt_zero _)
          have ST9 := Lib.hid (steps4_any w9)
          clear S C O Oc E9 hw9 z9 z7 zr O7' gl gl2 HB7 HPP HSS F0 F1
          go_upto_region 12 with fail
          try simp only [HW9.out]
          go_wp2_with (go_at_call 82; refine ST9.out.mono ?_; rintro e w10 ⟨rfl, hst, hb10⟩)
          have J10 := Lib.hid (J0.out w10 hst hb10)
          clear J0 ST9 hst hb10
          generalize wr.heap.size = gc0 at *
          generalize w9.heap.size = gt at *
          go_loopw [15, 16, 18, 19, 20, 21, 22] (fun s15 s16 s18 _ _ _ _ wx => ∃ (i : Nat) (s : Cell → Bool) (K : List Kid) (gc cd : Nat), i ≤ SP.length ∧ s18 = .int .i64 i ∧ s15 = .slice (some ⟨gc, 0, none⟩) K.length cd ∧ s16 = .int .i64 (deepC (K.map fun e => e.2.2) : Nat) ∧
            NsJ w mp ga cc gs (rowsTo L W H) W H gp gt cp SP stepL gc cd K s wx ∧ Hid (P.Ts o ((ax : Int), (ay : Int)) (fun z => s0 z || R z) n K s) ∧ Hid (Dni P o ((ax : Int), (ay : Int)) SP i K)) (fun _ _ s18 _ _ _ _ _ => SP.length - (intOf s18).toNat)
          case atStart => exact ⟨0, _, [], gc0, 0, Nat.zero_le _, rfl, rfl, rfl, J10.out, T0, DN0⟩
          case round =>
            obtain ⟨i, s, K, gc, cd, hi, rfl, rfl, rfl, J, T, D⟩ := hrel
            clear J10 T0 DN0
            by_cases hlt : i < SP.length
            · obtain ⟨x, y, hx, hy, e, hsame⟩ := SX.out i hlt
              have HSM := Lib.hid hsame
              have QN : Hid (∀ j (hj : j < stepL.length), (nbF SP[i]).getD j (0, 0) = ((x : Int) + (stepL[j]).1, (y : Int) + (stepL[j]).2) ∧ A4 SP[i] ((x : Int) + (stepL[j]).1, (y : Int) + (stepL[j]).2)) := fun j hj => by
                have h1 : (nbF SP[i]).getD j (0, 0) = ((x : Int) + (stepL[j]).1, (y : Int) + (stepL[j]).2) := by
                  rw [← nbD_four, List.getD_eq_getElem?_getD, List.getElem?_eq_getElem (by simpa [nbD] using hj)]
                  simp [nbD, e]
                refine ⟨h1, mem_nbF.1 ?_⟩
                rw [← h1, List.getD_eq_getElem?_getD, List.getElem?_eq_getElem (by rw [← nbD_four]; simpa [nbD] using hj)]
                exact List.getElem_mem _
              have NML : Hid (∀ q, A4 SP[i] q → ∃ j, j < 4 ∧ (nbF SP[i]).getD j (0, 0) = q) := fun q hq => by
                obtain ⟨j, hj, he⟩ := List.getElem_of_mem (mem_nbF.2 hq)
                exact ⟨j, hj, by rw [List.getD_eq_getElem?_getD, List.getElem?_eq_getElem hj, Option.getD_some, he]⟩
              have CS : Hid (∀ V : World, V.ownsRow w.heap.size 50 2 (.slice (some ⟨gp, 0, none⟩) SP.length cp) SP.length (spL SP) → V.cell? ⟨gp, i * 2, none⟩ = some (.int .i64 x) ∧ V.cell? ⟨gp, i * 2 + 1, none⟩ = some (.int .i64 y)) := fun V h => by
                have := (own_spots h rfl).2 i hlt
                rw [e] at this
                exact this
              have F0 : Hid (∀ m, m < 0 → Fnd P o ((ax : Int), (ay : Int)) K ((nbF SP[i]).getD m (0, 0))) := fun m h => absurd h (Nat.not_lt_zero _)
              have DNX : Hid (∀ K', Dni P o ((ax : Int), (ay : Int)) SP i K' → (∀ m, m < 4 → Fnd P o ((ax : Int), (ay : Int)) K' ((nbF SP[i]).getD m (0, 0))) → Dni P o ((ax : Int), (ay : Int)) SP (i + 1) K') := fun K' h1 h2 j hj hji q hq => by
                rcases Nat.lt_succ_iff_lt_or_eq.1 hji with h | rfl
                · exact h1 j hj h q hq
                · obtain ⟨m, hm, he⟩ := NML.out q hq
                  rw [← he]
                  exact h2 m hm
              have HE := Lib.hid e
              obtain ⟨pi, hpi⟩ : ∃ pi, SP[i] = pi := ⟨_, rfl⟩
              rw [hpi] at HSM QN F0 DNX HE
              have i0 : (0 : Int) ≤ (i : Int) := by omega
              have i1 : (i : Int) < (SP.length : Int) := by omega
              generalize hnl : nbF pi = nl at *
              clear e hsame hpi NML hnl
              go_wp2_with fail
              go_loopw [15, 16, 19, 20, 21, 22] (fun s15 s16 s19 _ _ _ wx => ∃ (j : Nat) (s : Cell → Bool) (K : List Kid) (gc cd : Nat), j ≤ 4 ∧ s19 = .int .i64 j ∧ s15 = .slice (some ⟨gc, 0, none⟩) K.length cd ∧ s16 = .int .i64 (deepC (K.map fun e => e.2.2) : Nat) ∧
                NsJ w mp ga cc gs (rowsTo L W H) W H gp gt cp SP stepL gc cd K s wx ∧ Hid (P.Ts o ((ax : Int), (ay : Int)) (fun z => s0 z || R z) n K s) ∧ Hid (Dni P o ((ax : Int), (ay : Int)) SP i K) ∧ Hid (∀ m, m < j → Fnd P o ((ax : Int), (ay : Int)) K (nl.getD m (0, 0)))) (fun _ _ s19 _ _ _ _ => 4 - (intOf s19).toNat)
              case atStart => exact ⟨0, s, K, gc, cd, Nat.zero_le _, rfl, rfl, rfl, J, T, D, F0⟩
              case round =>
                obtain ⟨j, s, K, gc, cd, hj, rfl, rfl, rfl, J, T, D, F⟩ := hrel
                by_cases hj4 : j < 4
                · obtain ⟨c1, c2⟩ := CS.out _ J.spots
                  obtain ⟨c3, c4⟩ := J.steps.spots.2 j hj4
                  obtain ⟨q1, q2⟩ := QN.out j hj4
                  have nr := stT_four.near _ (List.getElem_mem (show j < stepL.length from hj4))
                  generalize (stepL[j]'hj4) = st at *
                  obtain ⟨dx, dy⟩ := st
                  simp only at c3 c4 q1 q2 nr
                  obtain ⟨⟨n1, n2⟩, n3, n4⟩ := nr
                  have FN : Hid (∀ K', (∀ m, m < j → Fnd P o ((ax : Int), (ay : Int)) K' (nl.getD m (0, 0))) → Fnd P o ((ax : Int), (ay : Int)) K' ((x : Int) + dx, (y : Int) + dy) → ∀ m, m < j + 1 → Fnd P o ((ax : Int), (ay : Int)) K' (nl.getD m (0, 0))) := fun K' h1 h2 m hm => by
                    rcases Nat.lt_succ_iff_lt_or_eq.1 hm with h | rfl
                    · exact h1 m h
                    · rw [q1]; exact h2
                  have HQ2 := Lib.hid q2
                  have v1 : IntKind.i64.wrap ((x : Int) + dx) = (x : Int) + dx := IntWalk.i64_in _ (by omega)
                  have v2 : IntKind.i64.wrap ((y : Int) + dy) = (y : Int) + dy := IntWalk.i64_in _ (by omega)
                  have j0 : (0 : Int) ≤ (j : Int) := by omega
                  have j1 : (j : Int) < 4 := by omega
                  have HJ := Lib.hid J
                  clear J q1 q2
                  go_upto_region 20 with fail
                  go_cut [20] (fun s20 wx => s20 = .pointer (some ⟨wr.heap.size, 0, none⟩) ∧ Blk wx wr.heap.size 50 #[.int .i64 ((x : Int) + dx), .int .i64 ((y : Int) + dy)] ∧ Below wr.heap.size wr wx)
                  case first =>
                    go_region_held3 (fun w' => w'.cell? ⟨gp, i * 2, none⟩ = some (.int .i64 x) ∧ w'.cell? ⟨gp, i * 2 + 1, none⟩ = some (.int .i64 y) ∧ w'.cell? ⟨gt, j * 2, none⟩ = some (.int .i64 dx) ∧ w'.cell? ⟨gt, j * 2 + 1, none⟩ = some (.int .i64 dy))
                      (go_keep)
                      (fail)
                    all_goals
                      go_wp2_with fail
                      go_meet
                      exact ⟨rfl, Blk.made wr _ _, Ext.draw (Ext.more (Ext.refl _) _)⟩
                  case rest =>
                    obtain ⟨rfl, X20, B20⟩ := hcut
                    have J2 := HJ.out.step B20
                    have zr := X20.lt
                    have k0 := X20.cell 0
                    have k1 := X20.cell 1
                    simp at k0 k1
                    clear c1 c2 c3 c4 v1 v2 j0 j1 HJ i0 i1
                    obtain ⟨bq, hbq⟩ : ∃ bq, wr.heap.size = bq := ⟨_, rfl⟩
                    rw [hbq] at k0 k1 X20 zr ⊢
                    have zq := J2.chg.size
                    clear hbq B20
                    obtain ⟨qx, hqx⟩ : ∃ qx, (x : Int) + dx = qx := ⟨_, rfl⟩
                    obtain ⟨qy, hqy⟩ : ∃ qy, (y : Int) + dy = qy := ⟨_, rfl⟩
                    rw [hqx] at k0
                    rw [hqy] at k1
                    rw [hqx, hqy] at FN HQ2 X20
                    clear hqx hqy
                    have HH := Lib.hid (HS.out qx qy wc J2.pic)
                    have HJ := Lib.hid J2
                    cases hh : hasB W H qx qy
                    case false =>
                      have FN2 := Lib.hid (FN.out K F.out (fun h1 _ _ => by have := (hHas.out _).1 h1; rw [hh] at this; cases this))
                      rw [hh] at HH
                      clear J2 FN hh X20
                      go_wp2_with (go_at_call 77; refine HH.out.mono ?_; rintro e w' ⟨rfl, rfl⟩)
                      go_roundw
                      case rel => exact ⟨j + 1, s, K, gc, cd, by omega, by go_num, rfl, rfl, HJ.out, T, D, FN2.out⟩
                      case measure => simp [intOf]; omega
                    have hb := hasB_iff.1 hh
                    obtain ⟨u, rfl⟩ : ∃ u : Nat, qx = u := ⟨qx.toNat, by omega⟩
                    obtain ⟨v, rfl⟩ : ∃ v : Nat, qy = v := ⟨qy.toNat, by omega⟩
                    have hu : u < W := by omega
                    have hv : v < H := by omega
                    have hq1 := Lib.hid ((hHas.out ((u : Int), (v : Int))).2 hh)
                    rw [hh] at HH
                    have cs := seen_cell J2.seen hu hv
                    have sl := J2.seen.lt
                    have hpl : v * W + u < W * H := pl_lt hu hv
                    have m1 : IntKind.i64.wrap ((v : Int) * W) = (v : Int) * W := IntWalk.i64_in _ (by have := HWH.out; rw [← Int.natCast_mul]; omega)
                    have m2 : IntKind.i64.wrap ((v : Int) * W + u) = ((v * W + u : Nat) : Int) := by have := HWH.out; rw [← Int.natCast_mul, ← Int.natCast_add]; exact IntWalk.i64_in _ (by omega)
                    obtain ⟨pl, hpe⟩ : ∃ pl, v * W + u = pl := ⟨_, rfl⟩
                    rw [hpe] at cs m2 hpl
                    have u3 : (0 : Int) ≤ (pl : Int) := by omega
                    have u4 : (pl : Int) < ((W * H : Nat) : Int) := by omega
                    have SKIP : Hid (s ((u : Int), (v : Int)) = true → Fnd P o ((ax : Int), (ay : Int)) K ((u : Int), (v : Int))) := fun h h1 h2 h3 => T.out.vi.skip HSM.out h1 HQ2.out h2 h3 h
                    have HCC : Hid (s ((u : Int), (v : Int)) = false → P.col ((u : Int), (v : Int)) ≠ P.col ((ax : Int), (ay : Int))) := fun hs hcol => by
                      have h1 := same4 HSM.out.hasR hq1.out HQ2.out (by rw [hcol, HSM.out.col])
                      have h2 := (HR.out _).2 (HSM.out.trans h1)
                      have h3 := T.out.vi.base ((u : Int), (v : Int)) (by simp [h2])
                      rw [hs] at h3; cases h3
                    clear J2 hb hpe hh
                    cases hs : s ((u : Int), (v : Int))
                    case true =>
                      have FN2 := Lib.hid (FN.out K F.out (SKIP.out hs))
                      rw [hs] at cs
                      clear FN hs SKIP HCC X20
                      go_wp2_with (go_at_call 77; refine HH.out.mono ?_; rintro e w' ⟨rfl, rfl⟩)
                      go_roundw
                      case rel => exact ⟨j + 1, s, K, gc, cd, by omega, by go_num, rfl, rfl, HJ.out, T, D, FN2.out⟩
                      case measure => simp [intOf]; omega
                    case false =>
                      rw [hs] at cs
                      have hq2 := Lib.hid (HCC.out hs)
                      obtain ⟨R', hR'⟩ : ∃ R' : Cell → Bool, ∀ z, R' z = true ↔ P.Same ((u : Int), (v : Int)) z := ⟨fun z => @decide (P.Same ((u : Int), (v : Int)) z) (Classical.propDecidable _), fun z => by simp⟩
                      have HR' := Lib.hid hR'
                      have PW : P.W * P.H = W * H := by rw [← HP.out]; rfl
                      obtain ⟨tk1, _, tk3⟩ := T.out.take HR'.out HSM.out hq1.out HQ2.out hq2.out hs (by have := HFU.out; omega)
                      have IC := IH.out (some ((ax : Int), (ay : Int))) u v s R' wc HJ.out.pic (by omega) HJ.out.seen (by rw [HP.out]; exact HR'.out) (by rw [HP.out]; exact tk1) (by rw [HP.out]; omega)
                      have hq3 : P.col ((u : Int), (v : Int)) = !c := by
                        have := hq2.out
                        rw [HC.out] at this
                        exact ne_notT this
                      rw [HP.out, hq3] at IC
                      have HIC := Lib.hid IC
                      have few := T.out.few
                      have cbs := CB.out s
                      have K324 : K.length ≤ 324 := by have := HWH.out; omega
                      have HBK := Lib.hid (fun s' c' d' (h : P.Ta (some ((ax : Int), (ay : Int))) ((u : Int), (v : Int)) (fun z => s z || R' z) n c' d' s') => T.out.back HR'.out HSM.out hq1.out HQ2.out hq2.out hs h)
                      have dk : deepC (K.map fun e => e.2.2) ≤ n + 1 := deep_le (fun d hd => by
                        obtain ⟨e, he, rfl⟩ := List.mem_map.1 hd
                        exact T.out.dep e he)
                      clear IC tk1 tk3 few cbs PW hR' hq3 hs SKIP HCC
                      go_wp2_with (go_at_call 77; refine HH.out.mono ?_; rintro e w' ⟨rfl, rfl⟩)
                      refine HIC.out.mono ?_
                      rintro e w15 ⟨c', d', s', rfl, TA, hS15, hC15⟩
                      have J15 := Lib.hid (HJ.out.move hC15 (fun b h1 h2 => by omega) hS15)
                      have T15 := Lib.hid (HBK.out s' c' d' TA)
                      have dn := TA.dep
                      have SLN : (srtC (K.map fun e => e.2.1)).length = K.length := by rw [(srt_perm _).length_eq, List.length_map]
                      have IN := Lib.hid (insertT_any w.heap.size gc K.length cd (srtC (K.map fun e => e.2.1)) c' w15 J15.out.row SLN (by omega) (by have := J15.out.chg.size; omega))
                      have DS : Hid (deepC ((K ++ [(((u : Int), (v : Int)), c', d')]).map fun e => e.2.2) = max (deepC (K.map fun e => e.2.2)) (d' + 1)) := by
                        rw [Hid, List.map_append]
                        exact deepC_snoc _ _
                      have HF16 := Lib.hid (FN.out (K ++ [(((u : Int), (v : Int)), c', d')]) (fun i hi => (F.out i hi).more _) (fun _ _ _ => ⟨_, List.mem_append.2 (.inr (List.mem_singleton.2 rfl)), .start hq1.out⟩))
                      have HD16 := Lib.hid (D.out.more (((u : Int), (v : Int)), c', d'))
                      clear TA hS15 hC15 HIC HBK HJ SLN HH FN
                      generalize deepC (K.map fun e => e.2.2) = dp at *
                      have MX : Hid (∀ V, Calls Try.prog 84 #[.int .i64 dp, .int .i64 ((d' : Int) + 1)] V fun e w' => e = .returned (.int .i64 ((max dp (d' + 1) : Nat) : Int)) ∧ V = w') := fun V => by
                        refine (maxS_any' _ _ V).mono ?_
                        rintro e w' ⟨rfl, rfl⟩
                        refine ⟨?_, rfl⟩
                        congr 3
                        omega
                      have q9 : IntKind.i64.wrap ((d' : Int) + 1) = (d' : Int) + 1 := IntWalk.i64_in _ (by omega)
                      go_wp2_with fail
                      refine IN.out.mono ?_
                      rintro e w16 ⟨gc', cd', rfl, hrow16, hc16⟩
                      have J16 := Lib.hid (J15.out.app (e := (((u : Int), (v : Int)), c', d')) hc16 hrow16)
                      clear hrow16 hc16 J15 IN
                      go_wp2_with fail
                      refine (MX.out _).mono ?_
                      rintro e w17 ⟨rfl, rfl⟩
                      go_wp2_with fail
                      go_roundw
                      case rel => exact ⟨j + 1, s', K ++ [(((u : Int), (v : Int)), c', d')], gc', cd', by omega, by go_num, by rw [List.length_append]; rfl, by rw [DS.out], J16.out, T15.out, HD16.out, HF16.out⟩
                      case measure => simp [intOf]; omega
                · obtain rfl : j = 4 := by omega
                  have DN := Lib.hid (DNX.out K D.out F.out)
                  have HJ := Lib.hid J
                  clear J D F
                  go_wp2_with fail
                  go_roundw
                  case rel => exact ⟨i + 1, s, K, gc, cd, by omega, by go_num, rfl, rfl, HJ.out, T, DN.out⟩
                  case measure => simp [intOf]; omega
            · obtain rfl : i = SP.length := by omega
              have TA := Lib.hid (T.out.done (fun x q hx hxq h1 h2 h3 => by
                have hm := (SPM.out x).2 ((HR.out x).2 hx)
                obtain ⟨m, hm, he⟩ := List.getElem_of_mem hm
                exact D.out m hm hm q (by rw [he]; exact hxq) h1 h2 h3))
              have row := J.row
              have HSN := Lib.hid J.seen
              have HCG := Lib.hid J.chg
              have few := T.out.few
              have cb := CB.out s
              have PW : P.W * P.H ≤ 324 := by rw [← HP.out]; exact HWH.out
              have K324 : K.length ≤ 324 := by omega
              have SLN : (srtC (K.map fun e => e.2.1)).length = K.length := by rw [(srt_perm _).length_eq, List.length_map]
              have fl : (srtC (K.map fun e => e.2.1)).flatten.length ≤ 700 := by
                have wl := wrap_len (K.map fun e => e.2.1)
                have tl := T.out.len
                have e1 : (wrapC (K.map fun e => e.2.1)).length = (srtC (K.map fun e => e.2.1)).flatten.length + 2 := by simp [wrapC]
                have e2 : ((K.map fun e => e.2.1).map List.length) = K.map fun e => e.2.1.length := by simp [Function.comp_def]
                rw [e2] at wl
                omega
              have WR : Hid (wrapC (K.map fun e => e.2.1) = 40 :: ((srtC (K.map fun e => e.2.1)).flatten ++ [41])) := rfl
              generalize deepC (K.map fun e => e.2.2) = dp at *
              generalize wrapC (K.map fun e => e.2.1) = wc at *
              generalize srtC (K.map fun e => e.2.1) = sc at *
              generalize K.length = kn at *
              have FK : Hid (∀ k (hk : k < sc.length), ByteArray.mk (40 :: (sc.take k).flatten).toArray ++ ByteArray.mk (sc[k]).toArray = ByteArray.mk (40 :: (sc.take (k + 1)).flatten).toArray ∧ (sc.take k).flatten.length + (sc[k]).length ≤ 700) := fun k hk => by
                have e1 : (sc.take (k + 1)).flatten = (sc.take k).flatten ++ sc[k] := by rw [List.take_succ_eq_append_getElem hk, List.flatten_append, List.flatten_cons, List.flatten_nil, List.append_nil]
                refine ⟨?_, ?_⟩
                · apply ByteArray.ext
                  rw [e1]; simp
                · have h1 : sc.flatten = (sc.take (k + 1)).flatten ++ (sc.drop (k + 1)).flatten := by rw [← List.flatten_append, List.take_append_drop]
                  have h2 := congrArg List.length h1
                  rw [List.length_append, e1, List.length_append] at h2
                  omega
              have FE : Hid (ByteArray.mk (40 :: (sc.take sc.length).flatten).toArray ++ ByteArray.mk #[41] = ⟨wc.toArray⟩) := by
                rw [Hid, WR.out, List.take_length]
                apply ByteArray.ext
                simp
              have F0 : Hid (ByteArray.mk #[40] = ByteArray.mk (40 :: (sc.take 0).flatten).toArray) := by rw [Hid]; simp
              have RC : Hid (∀ k (hk : k < sc.length), wr.cell? ⟨gc, k, none⟩ = some (.string ⟨(sc[k]).toArray⟩)) := fun k hk => by
                rw [row.cellAt k (by omega), List.getElem?_map, List.getElem?_eq_getElem hk]; rfl
              have FL := Lib.hid fl
              clear J row D few cb PW fl T WR
              go_wp2_with fail
              obtain ⟨w20, hw20⟩ : ∃ w20, w20 = wr := ⟨_, rfl⟩
              subst hw20
              go_loopw [23, 24] (fun s23 s24 wx => ∃ k : Nat, k ≤ kn ∧ s24 = .int .i64 k ∧ s23 = .string ⟨(40 :: (sc.take k).flatten).toArray⟩ ∧ wx = w20) (fun _ s24 _ => kn - (intOf s24).toNat)
              case atStart => exact ⟨0, Nat.zero_le _, rfl, by rw [← F0.out], rfl⟩
              case round =>
                obtain ⟨k, hk, rfl, rfl, hw⟩ := hrel
                subst hw
                by_cases hkl : k < kn
                · obtain ⟨f1, f2⟩ := FK.out k (by omega)
                  have c1 := RC.out k (by omega)
                  have sz : (ByteArray.mk (40 :: (sc.take k).flatten).toArray).size = (sc.take k).flatten.length + 1 := by simp [ByteArray.size]
                  have sz2 : (ByteArray.mk (sc[k]'(by omega)).toArray).size = (sc[k]'(by omega)).length := by simp [ByteArray.size]
                  have nb : ¬ 9223372036854775807 < (ByteArray.mk (40 :: (sc.take k).flatten).toArray).size + (ByteArray.mk (sc[k]'(by omega)).toArray).size := by omega
                  have HF := Lib.hid f1
                  clear f1 f2 sz sz2
                  generalize ByteArray.mk (sc[k]'(by omega)).toArray = b1 at *
                  generalize ByteArray.mk (40 :: (sc.take k).flatten).toArray = b2 at *
                  have k0 : (0 : Int) ≤ (k : Int) := by omega
                  have k1 : (k : Int) < (kn : Int) := by omega
                  go_wp2_with fail
                  go_roundw
                  case rel => exact ⟨k + 1, by omega, by go_num, by rw [HF.out], by trivial⟩
                  case measure => simp [intOf]; omega
                · obtain rfl : k = kn := by omega
                  have sz : (ByteArray.mk (40 :: (sc.take k).flatten).toArray).size = (sc.take k).flatten.length + 1 := by simp [ByteArray.size]
                  have sz2 : (sc.take k).flatten.length ≤ 700 := by
                    have := FL.out
                    rw [List.take_of_length_le (by omega)]; exact this
                  have nb : ¬ 9223372036854775807 < (ByteArray.mk (40 :: (sc.take k).flatten).toArray).size + 1 := by omega
                  have HF := Lib.hid FE.out
                  rw [SLN] at HF
                  clear sz sz2 FK FE F0 RC
                  generalize ByteArray.mk (40 :: (sc.take k).flatten).toArray = b2 at *
                  go_wp2_with fail
                  go_ret2
                  exact ⟨wc, dp, s, by rw [← HF.out]; rfl, TA.out, HSN.out, HCG.out⟩
end Go.Proofs.Ytdhajndmebnknaa
