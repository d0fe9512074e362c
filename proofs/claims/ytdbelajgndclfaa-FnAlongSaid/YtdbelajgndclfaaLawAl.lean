/- The law FnAlong, walked. -/
import Derived.Test.YtdbelajgndclfaaTripL
import Derived.Test.YtdbelajgndclfaaRuns
import Derived.Test.YtdbelajgndclfaaCnt
import Derived.Test.YtdbelajgndclfaaR9
namespace Go.Proofs.Ytdbelajgndclfaa
open Go.RowKit

theorem same_sq {A B : Option Addr} {c d W H : Nat} {L : List Bool} {w : World} (h1 : Rd w A (strs (rowsTo L W H))) (h2 : Rd w B (strs (rowsTo L W H))) (hH : H ≤ 16) :
    Calls Try.prog 19 #[.agg #[.slice A H c], .agg #[.slice B H d]] w fun e w' => e = .returned (.bool true) ∧ Below w.heap.size w w' := by
  have := same_any A B c d (rowsTo L W H) w h1 h2 (by rw [rowsTo_length]; omega)
  rwa [rowsTo_length] at this
/-- A call has returned runs and yes. -/
theorem along_sq {o S cv : Nat} {L : List Bool} {R : List Int} (h : RunsOk o S cv L R) {A : Option Addr} {c : Nat} {w : World} (hp : Rd w A (strs (rowsTo L S S))) (hS : S ≤ 16) :
    Calls Try.prog 44 #[.agg #[.slice A S c], .int .i64 cv] w fun e w' => ∃ A' c', e = .returned (.tuple #[.slice A' R.length c', .bool true]) ∧ Rd w' A' (ints R) ∧ Below w.heap.size w w' := by
  have := pictureAlong_any A c (rowsTo L S S) cv w hp (by rw [rowsTo_length]; omega)
  rw [h.ok, if_pos rfl, h.along, rowsTo_length] at this
  refine this.mono fun e w' hr => ?_
  obtain ⟨A', c', h1, h2, h3⟩ := hr
  exact ⟨A', c', h1, h2.rd, h3⟩
theorem back_sq {o S cv : Nat} {L : List Bool} {R : List Int} (h : RunsOk o S cv L R) {A : Option Addr} {c : Nat} {w : World} (hp : Rd w A (ints R)) :
    Calls Try.prog 50 #[.int .i64 cv, .int .i64 o, .slice A R.length c] w fun e w' => ∃ A' c', e = .returned (.tuple #[.agg #[.slice A' S c'], .bool true]) ∧ w'.ownsRow w.heap.size 9 1 (.slice A' S c') S (strs (rowsTo L S S)) ∧ Below w.heap.size w w' := by
  have := fromRuns_any cv o A c R w hp (by have := h.few; omega)
  rw [h.back, if_pos rfl, h.pic] at this
  refine this.mono fun e w' hr => ?_
  obtain ⟨A', c', h1, h2, h3⟩ := hr
  rw [rowsTo_length] at h1 h2
  exact ⟨A', c', h1, h2, h3⟩
theorem count_sq {S : Nat} {L : List Bool} {A : Option Addr} {c : Nat} {w : World} (hp : Rd w A (strs (rowsTo L S S))) (hL : L.length = S * S) (h0 : 0 < S) (hS : S ≤ 16) :
    Calls Try.prog 53 #[.agg #[.slice A S c]] w fun e w' => e = .returned (.tuple #[.int .i64 (L.count true : Nat), .bool true]) ∧ Below w.heap.size w w' := by
  have := countBlack_any A c (rowsTo L S S) w hp (by rw [rowsTo_length]; omega) (told_ok h0 hS h0 hS)
  rwa [told_bits h0 hL, rowsTo_length] at this

theorem pow_facts {o S : Nat} (ho : o < 5) (hS : S = 2 ^ o) : wrap64 (S : Int) = (S : Int) ∧ (2 : Int) ^ o = (S : Int) := by
  have e : o = 0 ∨ o = 1 ∨ o = 2 ∨ o = 3 ∨ o = 4 := by omega
  rcases e with e | e | e | e | e <;> subst e <;> subst hS <;> decide +kernel

set_option maxRecDepth 100000 in
set_option maxHeartbeats 4000000 in
theorem walkAlong (w : World) (A : Option Addr) (n c : Nat) (l : List Int) (hl : BytesAt w A n l) (hn : n ≤ maxLen) (B : Option Addr) (m d : Nat) (l2 : List Int) (hl2 : BytesAt w B m l2) (hm : m ≤ maxLen) :
    Calls Try.prog 13 #[.slice A n c, .slice B m d] w fun e w' => e = .returned (.bool true) ∧ Below w.heap.size w w' := by
  have LO := Lib.hid (long_any A B n c m d hn hm w)
  cases hlong : (decide (48 < n) || decide (48 < m))
  case true =>
    rw [hlong] at LO
    clear hl hl2 hn hm hlong
    go_enter Try.func13, Try.ntmps13
    go_wp2_with fail
    refine LO.out.mono ?_
    rintro e w' ⟨rfl, rfl⟩
    go_wp2_with fail
    go_ret
    exact ⟨rfl, Ext.refl _⟩
  rw [hlong] at LO
  have AT0 := Lib.hid (r8At_any B m d l2 0 5 w hl2 (by decide) (by decide) (by decide) hm)
  have AT1 := Lib.hid (r8At_any B m d l2 1 4 w hl2 (by decide) (by decide) (by decide) hm)
  have R8 := Lib.hid (fun S (h0 : 0 < S) (hS : S ≤ 16) => r8Sized_any A n c l S w hl hn h0 hS)
  clear hl hl2 hn hm hlong
  go_enter Try.func13, Try.ntmps13
  go_wp2_with fail
  refine LO.out.mono ?_
  rintro e w' ⟨rfl, rfl⟩
  go_wp2_with fail
  refine AT0.out.mono ?_
  rintro e w' ⟨⟨o, ho, rfl⟩, rfl⟩
  go_wp2_with fail
  refine AT1.out.mono ?_
  rintro e w' ⟨⟨cv, hcv, rfl⟩, rfl⟩
  obtain ⟨S, hS⟩ : ∃ S : Nat, S = 2 ^ o := ⟨_, rfl⟩
  have o5 : o = 0 ∨ o = 1 ∨ o = 2 ∨ o = 3 ∨ o = 4 := by omega
  have hS1 : 1 ≤ S ∧ S ≤ 16 := by rcases o5 with e | e | e | e | e <;> subst e <;> subst hS <;> decide
  obtain ⟨s1, s16⟩ := hS1
  clear o5
  go_wp2_with fail
  have H2 := Lib.hid (pow_facts ho hS)
  simp only [H2.out.1, H2.out.2]
  clear H2
  refine (R8.out S (by omega) s16).mono ?_
  rintro e w1 ⟨A1, c1, L, rfl, hL, own1, hb1⟩
  have RO := Lib.hid (runsOk o S cv L (by omega) (by omega) hS hL)
  have HL := Lib.hid hL
  generalize colR (alB L S S (visTo cv o S S)) = R at *
  have B1 := Ext.more hb1 (.cells #[.slice A1 S c1] 26)
  have T1 := Blk.made w1 26 #[.slice A1 S c1]
  replace own1 := own1.alloc (.cells #[.slice A1 S c1] 26)
  have hz1 := hb1.size
  clear hb1 hL hS
  have AL := Lib.hid (fun V (hV : Rd V A1 (strs (rowsTo L S S))) => along_sq RO.out (c := c1) hV s16)
  have BK := Lib.hid (fun V A' c' (hV : Rd V A' (ints R)) => back_sq RO.out (c := c') (A := A') (w := V) hV)
  have CT := Lib.hid (fun V (hV : Rd V A1 (strs (rowsTo L S S))) => count_sq (c := c1) hV HL.out (by omega) s16)
  have SM := Lib.hid (fun V A' c' (h1 : Rd V A' (strs (rowsTo L S S))) (h2 : Rd V A1 (strs (rowsTo L S S))) => same_sq (c := c') (d := c1) h1 h2 s16)
  obtain ⟨rn, hrn⟩ : ∃ rn, R.length = rn := ⟨_, rfl⟩
  have few := RO.out.few
  have NUM := Lib.hid RO.out.num
  have SUM := Lib.hid RO.out.sum
  have ODD := Lib.hid RO.out.odd
  have ALL := Lib.hid RO.out.all
  have BLK := Lib.hid RO.out.black
  rw [hrn] at AL BK few NUM SUM ODD BLK
  have HRN := Lib.hid hrn
  clear RO hrn
  generalize hct : L.count true = ct at *
  go_wp2_with fail
  generalize w1.alloc (.cells #[.slice A1 S c1] 26) = w2 at *
  have k1 := T1.cell 0
  simp at k1
  refine (AL.out _ (Rd.of_own own1)).mono ?_
  rintro e w3 ⟨A3, c3, rfl, r3, hb3⟩
  have own3 := own_ext hb3 own1
  have B3 := Ext.then_ B1 hb3
  have T3 := T1.under hb3 T1.lt
  clear k1 own1 T1 hb3 B1
  go_wp2_with fail
  refine (BK.out _ _ _ r3).mono ?_
  rintro e w4 ⟨A4, c4, rfl, own4, hb4⟩
  have r4 := r3.ext hb4
  have own3' := own_ext hb4 own3
  have B4 := Ext.then_ B3 hb4
  have T4 := T3.under hb4 T3.lt
  have hz4 := hb4.size
  have hz3 := B3.size
  clear r3 own3 B3 T3 hb4
  have B5 := Ext.more B4 (.cells #[.slice A4 S c4] 26)
  have T5 := Blk.made w4 26 #[.slice A4 S c4]
  have T4' := T4.more (.cells #[.slice A4 S c4] 26)
  have r5 := r4.ext (Ext.more (Ext.refl _) (.cells #[.slice A4 S c4] 26))
  have o1 := own3'.alloc (.cells #[.slice A4 S c4] 26)
  have o4' := own4.alloc (.cells #[.slice A4 S c4] 26)
  have k4 := T4'.cell 0
  simp at k4
  have t4l := T4'.lt
  have t4l2 := T4.lt
  clear r4 own3' own4 T4 B4
  go_wp2_with fail
  refine (CT.out _ (Rd.of_own o1)).mono ?_
  rintro e w5 ⟨rfl, hb5⟩
  have t5 := T5.under hb5 T5.lt
  have t4 := T4'.under hb5 T4'.lt
  have ob := own_ext hb5 o4'
  have op := own_ext hb5 o1
  have r := r5.ext hb5
  have hz5 := hb5.size
  have B6 := Ext.then_ B5 hb5
  have k5 := t5.cell 0
  have k6 := t4.cell 0
  simp at k5 k6
  have g5 := t5.lt
  have g4 := t4.lt
  clear r5 o1 o4' T5 T4' hb5 B5 k4 t4l t4l2
  go_wp2_with fail
  refine (SM.out _ _ _ (Rd.of_own ob) (Rd.of_own op)).mono ?_
  rintro e w6 ⟨rfl, hb6⟩
  have B7 := Ext.then_ B6 hb6
  have RC := Lib.hid (fun k (hk : k < rn) => ints_cell (r.ext hb6) (k := k) (by rw [HRN.out]; exact hk))
  clear r ob op t5 t4 k5 k6 g5 g4 B6 hb6 hz5 hz4 hz3 hz1 SM BK AL CT R8 AT0 AT1 LO hct HL
  go_wp2_with fail
  go_loopw [15, 16, 17] (fun a b i wr => ∃ k nd : Nat, k ≤ rn ∧ i = .int .i64 k ∧ a = .int .i64 (R.take k).sum ∧ b = .int .i64 (oddTo R k) ∧ wr = w6.drewN nd) (fun _ _ i _ => rn - (intOf i).toNat)
  case atStart => exact ⟨0, 0, Nat.zero_le _, rfl, rfl, rfl, rfl⟩
  case round =>
    obtain ⟨k, nd, hk, rfl, rfl, rfl, rfl⟩ := hrel
    by_cases hlt : k < rn
    · obtain ⟨g, rfl, hg, ck⟩ := RC.out k hlt
      have u1 := NUM.out k hlt
      have u2 := SUM.out k hk
      have u3 := SUM.out (k + 1) hlt
      have u4 := ODD.out k hk
      have u5 := ODD.out (k + 1) hlt
      have st := sumTo_take (runs := R) (k := k) (by rw [HRN.out]; exact hlt)
      have so : oddTo R (k + 1) = oddTo R k + if k % 2 = 1 then R.getD k 0 else 0 := rfl
      rw [st] at u3
      rw [so] at u5
      have ST := Lib.hid st
      have SO := Lib.hid so
      clear st so
      generalize (R.take k).sum = sa at *
      generalize oddTo R k = sb at *
      generalize R.getD k 0 = rk at *
      have i0 : (0 : Int) ≤ (k : Int) := by omega
      have i1 : (k : Int) < (rn : Int) := by omega
      have j1 : IntKind.i64.wrap (sa + rk) = sa + rk := IntWalk.i64_in _ (by omega)
      have j2 : IntKind.i64.wrap (sb + rk) = sb + rk := IntWalk.i64_in _ (by omega)
      go_wp2_with fail
      all_goals first
        | (refine ⟨⟨k + 1, nd, hlt, by go_num, by rw [ST.out], ?_, rfl⟩, by simp [intOf]; omega⟩
           rename_i hq
           rw [SO.out]
           split
           · first | rfl | (exfalso; simp at hq; omega)
           · first | (rw [Int.add_zero]; done) | (exfalso; simp at hq; omega))
        | (exfalso; rename_i h1 h2; simp at h2; omega)
        | (exfalso; rename_i h2; simp at h2; omega)
    · obtain rfl : rn = k := by omega
      have AL2 := Lib.hid (show (R.take rn).sum = ((S * S : Nat) : Int) by rw [List.take_of_length_le (by rw [HRN.out]; omega), ALL.out])
      have e1 : (oddTo R rn == (ct : Int)) = true := by rw [BLK.out]; simp
      have e2 : ((R.take rn).sum == (S : Int) * (S : Int)) = true := by rw [AL2.out]; simp
      have j0 : IntKind.i64.wrap ((S : Int) * (S : Int)) = (S : Int) * (S : Int) := IntWalk.i64_in _ (by
        have : S * S ≤ 16 * 16 := Nat.mul_le_mul s16 s16
        have h : (S : Int) * (S : Int) = ((S * S : Nat) : Int) := by push_cast; rfl
        omega)
      clear AL2 BLK ALL
      generalize (R.take rn).sum = sa at *
      generalize oddTo R rn = sb at *
      go_wp2_with fail
      go_ret
      exact ⟨rfl, Ext.drawN B7 _⟩
end Go.Proofs.Ytdbelajgndclfaa
