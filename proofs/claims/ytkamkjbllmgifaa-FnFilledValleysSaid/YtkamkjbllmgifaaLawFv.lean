/- Lists and tables of numbers that a law compares. Numbers that an input of the tenth part chooses. Whether a pixel is black, as a law asks. Numbers that an input of the tenth part chooses; rows of one size. The law FnFilledValleys, walked. -/
import Derived.Test.YtkamkjbllmgifaaMatP
import Derived.Test.YtkamkjbllmgifaaBytes
import Derived.Test.YtkamkjbllmgifaaSIs
import Derived.Test.YtkamkjbllmgifaaLevB
import Derived.Test.YtkamkjbllmgifaaVlE
namespace Go.Proofs.Ytkamkjbllmgifaa
open Go.RowKit

set_option maxRecDepth 100000 in
set_option maxHeartbeats 1000000 in
theorem b10Nums_any (A B : Option Addr) (ca cb : Nat) (L : List Int) (w : World) (hA : Rd w A (ints L)) (hB : Rd w B (ints L)) (hn : L.length ≤ 1000000000) :
    Calls Try.prog 16 #[.slice A L.length ca, .slice B L.length cb] w fun e w' => e = .returned (.bool true) ∧ ∃ k, w' = w.drewN k := by
  have cell : ∀ (A : Option Addr), Rd w A (ints L) → ∀ k, k < L.length → ∃ g, A = some ⟨g, 0, none⟩ ∧ g < w.heap.size ∧ w.cell? ⟨g, k, none⟩ = some (.int .i64 (L.getD k 0)) := fun A h k hk => by
    obtain ⟨g, e, hg, hc⟩ := h (by simp [ints]; omega)
    have := hc k (by simpa [ints] using hk)
    exact ⟨g, e, hg, by rw [this]; simp [ints, List.getD_eq_getElem?_getD, hk]⟩
  have CA := Lib.hid (cell A hA)
  have CB := Lib.hid (cell B hB)
  clear hA hB cell
  generalize (fun k => L.getD k 0) = X at *
  obtain ⟨n, hl⟩ : ∃ n, L.length = n := ⟨_, rfl⟩
  rw [hl] at hn CA CB ⊢
  have t0 : ((n : Int) != (n : Int)) = false := by simp
  clear hl
  go_enter Try.func16, Try.ntmps16
  go_wp2_with fail
  go_loopw [5] (fun i wr => ∃ k j : Nat, k ≤ n ∧ i = .int .i64 k ∧ wr = w.drewN j) (fun i _ => n - (intOf i).toNat)
  case atStart => exact ⟨0, 0, Nat.zero_le _, rfl, rfl⟩
  case round =>
    obtain ⟨k, j, hk, rfl, rfl⟩ := hrel
    by_cases hlt : k < n
    · obtain ⟨g, rfl, hg, c1⟩ := CA.out k hlt
      obtain ⟨g', rfl, hg', c2⟩ := CB.out k hlt
      generalize L.getD k 0 = x at *
      have i0 : (0 : Int) ≤ (k : Int) := by omega
      have i1 : (k : Int) < (n : Int) := by omega
      have t1 : (x != x) = false := by simp
      go_wp2_with fail
      go_quiet (fail)
      go_wp2_with fail
      go_roundw
      case rel => exact ⟨k + 1, j + nq, by omega, by go_num, rfl⟩
      case measure => simp [intOf]; omega
    · obtain rfl : k = n := by omega
      go_wp2_with fail
      go_ret
      exact ⟨rfl, j, rfl⟩
set_option maxRecDepth 100000 in
set_option maxHeartbeats 1000000 in
theorem b10Tables_any (A B : Option Addr) (c d : Nat) (rows : List (List Int)) (w : World) (hA : MatRd w A rows) (hB : MatRd w B rows) (h0 : 0 < rows.length) (hn : rows.length ≤ 1000000000) (hr : ∀ i (h : i < rows.length), rows[i].length ≤ 1000000000) :
    Calls Try.prog 14 #[.slice A rows.length c, .slice B rows.length d] w fun e w' => e = .returned (.bool true) ∧ Below w.heap.size w w' := by
  have XA := Lib.hid (fun k => hA.drewN k)
  have XB := Lib.hid (fun k => hB.drewN k)
  have HR := Lib.hid hr
  obtain ⟨n, hnL⟩ : ∃ n, rows.length = n := ⟨_, rfl⟩
  have t0 : ((n : Int) != n) = false := by simp
  rw [hnL] at hn h0 ⊢
  clear hA hB hr
  go_enter Try.func14, Try.ntmps14
  go_wp2_with fail
  go_loopw [5] (fun i wr => ∃ k j : Nat, k ≤ n ∧ i = .int .i64 k ∧ wr = w.drewN j) (fun i _ => n - (intOf i).toNat)
  case atStart => exact ⟨0, 0, Nat.zero_le _, rfl, rfl⟩
  case round =>
    obtain ⟨k, j, hk, rfl, hwr⟩ := hrel
    by_cases hlt : k < n
    · have MA : MatRd wr A rows := hwr ▸ XA.out j
      have MB : MatRd wr B rows := hwr ▸ XB.out j
      have HW := Lib.hid hwr
      clear hwr
      obtain ⟨g, rfl, hg, hcA⟩ := MA (by omega)
      obtain ⟨g', rfl, hg', hcB⟩ := MB (by omega)
      obtain ⟨A1, c1, k1, r1⟩ := hcA k (by omega)
      obtain ⟨A2, c2, k2, r2⟩ := hcB k (by omega)
      have hrk := HR.out k (by omega)
      clear hcA hcB MA MB
      have EQ := Lib.hid (fun j' => b10Nums_any A1 A2 c1 c2 rows[k] (wr.drewN j') (r1.drewN j') (r2.drewN j') hrk)
      generalize rows[k] = x at *
      have i0 : (0 : Int) ≤ (k : Int) := by omega
      have i1 : (k : Int) < (n : Int) := by omega
      go_wp2_with fail
      go_quiet ((go_at_call 16; exact Calls.quiet_of (EQ.out _)))
      go_wp2_with fail
      go_roundw
      case rel => exact ⟨k + 1, j + nq, by omega, by go_num, by rw [HW.out, World.drewN_drewN]⟩
      case measure => simp [intOf]; omega
    · obtain rfl : k = n := by omega
      have i2 : (0 : Int) < (k : Int) := by omega
      have HB : Hid (Below w.heap.size w wr) := by rw [Hid, hwr]; exact Ext.drawN (Ext.refl _) j
      clear hwr
      go_wp2_with fail
      go_ret
      exact ⟨rfl, HB.out⟩
end Go.Proofs.Ytkamkjbllmgifaa

namespace Go.Proofs.Ytkamkjbllmgifaa
open Go.RowKit

set_option maxHeartbeats 400000 in
theorem b10Long_any (A B : Option Addr) (n c m d : Nat) (hn : n ≤ maxLen) (hm : m ≤ maxLen) (w : World) :
    Calls Try.prog 9 #[.slice A n c, .slice B m d] w fun e w' => e = .returned (.bool (decide (1048576 < n) || decide (1048576 < m))) ∧ w = w' := by
  unfold maxLen at hn hm
  by_cases h1 : 1048576 < n
  · have t1 : (1048576 : Int) < (n : Int) := by omega
    go_enter Try.func9, Try.ntmps9
    go_wp2_with fail
    go_ret
    exact ⟨ret_bool (by simp [h1]), rfl⟩
  · have t1 : ¬ (1048576 : Int) < (n : Int) := by omega
    have F : Hid ((decide (1048576 < n) || decide (1048576 < m)) = decide ((1048576 : Int) < (m : Int))) := by
      simp [Hid, h1]; omega
    clear h1
    go_enter Try.func9, Try.ntmps9
    go_wp2_with fail
    go_ret
    exact ⟨ret_bool F.out.symm, rfl⟩

set_option maxHeartbeats 1000000 in
theorem b10At_any (A : Option Addr) (n c : Nat) (l : List Int) (k m : Nat) (w : World) (hl : BytesAt w A n l) (hm : 0 < m) (hm2 : m ≤ 70000) (hk : k ≤ 10) (_hn : n ≤ maxLen) :
    Calls Try.prog 11 #[.slice A n c, .int .i64 k, .int .i64 m] w fun e w' => (∃ v : Nat, v < m ∧ e = .returned (.int .i64 v)) ∧ w = w' := by
  by_cases hm1 : m = 1
  · have t0 : (m : Int) ≤ 1 := by omega
    clear hl hm1
    go_enter Try.func11, Try.ntmps11
    go_wp2_with fail
    go_ret
    exact ⟨⟨0, by omega, rfl⟩, rfl⟩
  have t0 : ¬ (m : Int) ≤ 1 := by omega
  have t1 : (m : Int) ≠ 0 := by omega
  by_cases h : k < n
  · obtain ⟨a, rfl, ha, hc⟩ := hl.2.2 (by omega)
    have hkl : k < l.length := by rw [hl.1]; exact h
    have c1 := hc k hkl
    obtain ⟨b0, b1⟩ := hl.2.1 l[k] (List.getElem_mem hkl)
    generalize l[k] = v at *
    have k1 : (k : Int) < (n : Int) := by omega
    have i0 : (0 : Int) ≤ (k : Int) := by omega
    clear hc hl
    go_enter Try.func11, Try.ntmps11
    go_wp2_with fail
    go_ret
    refine ⟨⟨(v % (m : Int)).toNat, ?_, ?_⟩, rfl⟩
    · have := Int.emod_lt_of_pos v (show (0 : Int) < m by omega)
      have := Int.emod_nonneg v (show (m : Int) ≠ 0 by omega)
      omega
    · have := Int.emod_nonneg v (show (m : Int) ≠ 0 by omega)
      have e1 : (((v % (m : Int)).toNat : Nat) : Int) = v % (m : Int) := by omega
      rw [e1]
      rfl
  · have k1 : ¬ (k : Int) < (n : Int) := by omega
    have q0 : (0 : Int) ≤ (k : Int) * 37 + 11 := by omega
    clear hl
    go_enter Try.func11, Try.ntmps11
    go_wp2_with fail
    go_ret
    refine ⟨⟨(((k : Int) * 37 + 11) % (m : Int)).toNat, ?_, ?_⟩, rfl⟩
    · have := Int.emod_lt_of_pos ((k : Int) * 37 + 11) (show (0 : Int) < m by omega)
      have := Int.emod_nonneg ((k : Int) * 37 + 11) (show (m : Int) ≠ 0 by omega)
      omega
    · have := Int.emod_nonneg ((k : Int) * 37 + 11) (show (m : Int) ≠ 0 by omega)
      have e1 : (((((k : Int) * 37 + 11) % (m : Int)).toNat : Nat) : Int) = ((k : Int) * 37 + 11) % (m : Int) := by omega
      rw [e1]
      rfl

end Go.Proofs.Ytkamkjbllmgifaa

namespace Go.Proofs.Ytkamkjbllmgifaa
open Go.RowKit

end Go.Proofs.Ytkamkjbllmgifaa

namespace Go.Proofs.Ytkamkjbllmgifaa
open Go.RowKit

set_option maxHeartbeats 1000000 in
theorem b10Shape_any (A B : Option Addr) (c d n : Nat) (r1 r2 : List (List Int)) (w : World) (hA : MatRd w A r1) (hB : MatRd w B r2) (h1 : r1.length = n) (h2 : r2.length = n) (hn0 : 0 < n) (hn : n ≤ 1000) (W : Nat)
    (hr1 : ∀ i (h : i < r1.length), r1[i].length = W) (hr2 : ∀ i (h : i < r2.length), r2[i].length = W) :
    Calls Try.prog 15 #[.slice A n c, .slice B n d] w fun e w' => e = .returned (.bool true) ∧ Below w.heap.size w w' := by
  have XA := Lib.hid (fun i (hi : i < n) => (show ∃ g Ai ci, A = some ⟨g, 0, none⟩ ∧ w.cell? ⟨g, i, none⟩ = some (.slice Ai W ci) by
    obtain ⟨g, e, hg, hc⟩ := hA (by omega)
    obtain ⟨Ai, ci, q1, q2⟩ := hc i (by omega)
    rw [hr1] at q1
    exact ⟨g, Ai, ci, e, q1⟩))
  have XB := Lib.hid (fun i (hi : i < n) => (show ∃ g Ai ci, B = some ⟨g, 0, none⟩ ∧ w.cell? ⟨g, i, none⟩ = some (.slice Ai W ci) by
    obtain ⟨g, e, hg, hc⟩ := hB (by omega)
    obtain ⟨Ai, ci, q1, q2⟩ := hc i (by omega)
    rw [hr2] at q1
    exact ⟨g, Ai, ci, e, q1⟩))
  have t0 : ((n : Int) != n) = false := by simp
  have t1 : ((W : Int) != W) = false := by simp
  have t2 : (0 : Int) < (n : Int) := by omega
  clear hA hB h1 h2 hr1 hr2
  go_enter Try.func15, Try.ntmps15
  go_wp2_with fail
  go_loopw [5] (fun i wr => ∃ k j : Nat, k ≤ n ∧ i = .int .i64 k ∧ wr = w.drewN j) (fun i _ => n - (intOf i).toNat)
  case atStart => exact ⟨0, 0, Nat.zero_le _, rfl, rfl⟩
  case round =>
    obtain ⟨k, j, hk, rfl, rfl⟩ := hrel
    by_cases hlt : k < n
    · obtain ⟨g, Ai, ci, rfl, q1⟩ := XA.out k hlt
      obtain ⟨g', Bi, di, rfl, q2⟩ := XB.out k hlt
      have i0 : (0 : Int) ≤ (k : Int) := by omega
      have i1 : (k : Int) < (n : Int) := by omega
      go_wp2_with fail
      go_quiet (fail)
      go_wp2_with fail
      go_roundw
      case rel => exact ⟨k + 1, _, by omega, by go_num, rfl⟩
      case measure => simp [intOf]; omega
    · obtain rfl : k = n := by omega
      go_wp2_with fail
      go_ret
      exact ⟨rfl, Ext.drawN (Ext.refl _) j⟩
end Go.Proofs.Ytkamkjbllmgifaa

namespace Go.Proofs.Ytkamkjbllmgifaa
open Go.RowKit
open Vl

theorem gO_rowsW {V : World} {A : Option Addr} {O : Nat → Int} {W H : Nat} (h : MatRd V A (gO O W H)) (hH : 0 < H) (hW : 0 < W) :
    ∃ g, A = some ⟨g, 0, none⟩ ∧ g < V.heap.size ∧ ∀ y, y < H → ∃ r cr, V.cell? ⟨g, y, none⟩ = some (.slice (some ⟨r, 0, none⟩) W cr) ∧ r < V.heap.size ∧ ∀ x, x < W → V.cell? ⟨r, x, none⟩ = some (.int .i64 (O (y * W + x))) := by
  obtain ⟨g, e, hg, hc⟩ := h (by rw [gO_length]; exact hH)
  refine ⟨g, e, hg, fun y hy => ?_⟩
  have hy' : y < (gO O W H).length := by rw [gO_length]; exact hy
  obtain ⟨Ai, ci, q1, q2⟩ := hc y hy'
  rw [gO_w] at q1
  obtain ⟨r, rfl, hr, hcr⟩ := q2 (by simp [ints, gO_w]; exact hW)
  refine ⟨r, ci, q1, hr, fun x hx => ?_⟩
  have hx' : x < (gO O W H)[y].length := by rw [gO_w]; exact hx
  have := hcr x (by simpa [ints] using hx')
  rw [this]
  simp [ints, gO_get]
/-- A row of three numbers. -/
theorem mat_rowW {V : World} {A : Option Addr} {R : List (List Int)} (h : MatRd V A R) {k : Nat} (hk : k < R.length) {b p D : Int} (e : R[k] = [b, p, D]) :
    ∃ g r c, A = some ⟨g, 0, none⟩ ∧ g < V.heap.size ∧ r < V.heap.size ∧ V.cell? ⟨g, k, none⟩ = some (.slice (some ⟨r, 0, none⟩) 3 c) ∧ V.cell? ⟨r, 0, none⟩ = some (.int .i64 b) ∧ V.cell? ⟨r, 1, none⟩ = some (.int .i64 p) ∧ V.cell? ⟨r, 2, none⟩ = some (.int .i64 D) ∧ Rd V (some ⟨r, 0, none⟩) (ints [b, p, D]) := by
  obtain ⟨g, e1, hg, hc⟩ := h (by omega)
  obtain ⟨Ai, ci, q1, q2⟩ := hc k hk
  rw [e] at q1 q2
  obtain ⟨r, rfl, hr, hcr⟩ := q2 (by simp [ints])
  exact ⟨g, r, ci, e1, hg, hr, q1, hcr 0 (by simp [ints]), hcr 1 (by simp [ints]), hcr 2 (by simp [ints]), fun _ => ⟨r, rfl, hr, hcr⟩⟩
theorem cnt_takeW {R : List (List Int)} {f : List Int → Bool} {k : Nat} (hk : k < R.length) : ((R.take (k + 1)).filter f).length = ((R.take k).filter f).length + if f R[k] then 1 else 0 := by
  rw [List.take_succ_eq_append_getElem hk, List.filter_append, List.length_append, List.filter_cons, List.filter_nil]
  congr 1
  split <;> rfl
set_option maxRecDepth 100000 in
set_option maxHeartbeats 8000000 in
theorem walkFilled (w : World) (A : Option Addr) (n c : Nat) (l : List Int) (hl : BytesAt w A n l) (hn : n ≤ maxLen) (B : Option Addr) (m d : Nat) (l2 : List Int) (hl2 : BytesAt w B m l2) (hm : m ≤ maxLen) :
    Calls Try.prog 3 #[.slice A n c, .slice B m d] w fun e w' => e = .returned (.bool true) ∧ Below w.heap.size w w' := by
  have LO := Lib.hid (b10Long_any A B n c m d hn hm w)
  cases hlong : (decide (1048576 < n) || decide (1048576 < m))
  case true =>
    rw [hlong] at LO
    clear hl hl2 hn hm hlong
    go_enter Try.func3, Try.ntmps3
    go_wp2_with (go_at_call 9; refine LO.out.mono ?_; rintro e w' ⟨rfl, rfl⟩)
    go_ret
    exact ⟨rfl, Ext.refl _⟩
  rw [hlong] at LO
  have RG := Lib.hid (b10Grey_any A n c l w hl hn)
  have AT := Lib.hid (fun V (hb : Below w.heap.size w V) => (show Calls Try.prog 11 #[.slice B m d, .int .i64 0, .int .i64 8] V _ from b10At_any B m d l2 0 8 V (hl2.ext hb) (by omega) (by omega) (by omega) hm))
  clear hl hl2 hn hm hlong
  go_enter Try.func3, Try.ntmps3
  go_wp2_with (go_at_call 9; refine LO.out.mono ?_; rintro e w' ⟨rfl, rfl⟩)
  refine RG.out.mono ?_
  rintro e w1 ⟨A1, c1, G, W, H, rfl, W0, W6, H0, H6, hG, M1, hb1⟩
  clear RG LO
  have B1 := Ext.more hb1 (.cells #[.slice A1 H c1] 26)
  have T1 := Blk.made w1 26 #[.slice A1 H c1]
  replace M1 := M1.ext (Ext.more (Ext.refl _) (.cells #[.slice A1 H c1] 26))
  clear hb1
  have GOK : greyOk (gO G W H) = true := gO_ok W0 (by omega) H0 (by omega) hG
  have RL : (gO G W H).length = H := gO_length _ _ _
  have TW : tabW (gO G W H) = W := tabW_gO _ H0
  go_wp2_with fail
  refine (AT.out _ B1).mono ?_
  rintro e w1' ⟨⟨dp, hdp, rfl⟩, rfl⟩
  have FP := filP_of GOK (dp : Int)
  have FB := filF_bd GOK (dp : Int)
  obtain ⟨v1, v2, v3, v4⟩ := fv_rows GOK
  rw [TW, RL] at FB
  rw [TW] at v4
  rw [RL] at v4
  have ER : fillR (gO G W H) (dp : Int) = gO (filF (gO G W H) (dp : Int)) W H := by rw [fillR, TW, RL, filF, TW]
  have inb : inB (dp : Int) 0 100 = true := by simp [inB]; omega
  have hn1 : (gO G W H).length ≤ 1000000000 := by rw [RL]; omega
  have hr1 : ∀ i (h : i < (gO G W H).length), (gO G W H)[i].length ≤ 1000000000 := fun i h => by rw [gO_w]; omega
  have fo1 : fillOk (gO G W H) (dp : Int) = true := by rw [fillOk, GOK, inb]; rfl
  have fv1 : fillV (gO G W H) (dp : Int) = fillR (gO G W H) (dp : Int) := by rw [fillV, if_pos fo1]
  have fo2 : fillOk (fillR (gO G W H) (dp : Int)) (dp : Int) = true := by rw [fillOk, FP.ok, inb]; rfl
  have fv2 : fillV (fillR (gO G W H) (dp : Int)) (dp : Int) = fillR (gO G W H) (dp : Int) := by rw [fillV, if_pos fo2, FP.again]
  have HLIST := FP.list
  have HOK2 := FP.ok
  rw [ER] at fv1 fo2 fv2 HLIST HOK2
  have RL2 : (gO (filF (gO G W H) (dp : Int)) W H).length = H := gO_length _ _ _
  have FV1 := Lib.hid (fun V (hV : MatRd V A1 (gO G W H)) => fillVal_any A1 c1 (gO G W H) (dp : Int) V hV hn1 hr1)
  rw [fv1, fo1, RL] at FV1
  have hn2 : (gO (filF (gO G W H) (dp : Int)) W H).length ≤ 1000000000 := by rw [RL2]; omega
  have hr2 : ∀ i (h : i < (gO (filF (gO G W H) (dp : Int)) W H).length), (gO (filF (gO G W H) (dp : Int)) W H)[i].length ≤ 1000000000 := fun i h => by rw [gO_w]; omega
  have FV2 := Lib.hid (fun A2 c2 V (hV : MatRd V A2 (gO (filF (gO G W H) (dp : Int)) W H)) => fillVal_any A2 c2 (gO (filF (gO G W H) (dp : Int)) W H) (dp : Int) V hV hn2 hr2)
  rw [fv2, fo2, RL2] at FV2
  have VV1 := Lib.hid (fun V (hV : MatRd V A1 (gO G W H)) => valleysOf_any A1 c1 (gO G W H) V hV hn1 hr1)
  have VR1 : valR (gO G W H) = lastR (vSt (gO G W H)) (vSt (gO G W H)).n := by rw [valR, GOK]; rfl
  rw [VR1, GOK, RL] at VV1
  have VV2 := Lib.hid (fun A2 c2 V (hV : MatRd V A2 (gO (filF (gO G W H) (dp : Int)) W H)) => valleysOf_any A2 c2 (gO (filF (gO G W H) (dp : Int)) W H) V hV hn2 hr2)
  have VR2 : valR (gO (filF (gO G W H) (dp : Int)) W H) = (lastR (vSt (gO G W H)) (vSt (gO G W H)).n).filter (deepRow (dp : Int)) := by rw [valR, HOK2, ← HLIST]; rfl
  rw [VR2, HOK2, RL2] at VV2
  have DV := Lib.hid (fun (ax ay : Int) V (hV : MatRd V A1 (gO G W H)) => depthAt_any A1 c1 (gO G W H) ax ay V hV hn1 hr1)
  rw [RL] at DV
  have FGE : Hid (∀ i, i < W * H → G i ≤ filF (gO G W H) (dp : Int) i) := fun i hi => by
    have h1 := (FB i hi).1
    rwa [gF_gOw G hi W0] at h1
  have v3' : ∃ p D : Int, (lastR (vSt (gO G W H)) (vSt (gO G W H)).n)[0]? = some [(vSt (gO G W H)).born 0, p, D] := by
    obtain ⟨h, p0, D0, e0⟩ := v3
    exact ⟨p0, D0, by rw [List.getElem?_eq_getElem h, e0]⟩
  clear v3
  obtain ⟨R, hR⟩ : ∃ R, lastR (vSt (gO G W H)) (vSt (gO G W H)).n = R := ⟨_, rfl⟩
  obtain ⟨b0, hb0⟩ : ∃ b0, (vSt (gO G W H)).born 0 = b0 := ⟨_, rfl⟩
  obtain ⟨F, hF⟩ : ∃ F, filF (gO G W H) (dp : Int) = F := ⟨_, rfl⟩
  rw [hR] at v1 v2 v3' VV1 VV2
  simp only [hR] at v4
  rw [hb0] at v3'
  simp only [hb0] at v4
  rw [hF] at FV1 FV2 VV2 FGE
  obtain ⟨K, hK⟩ : ∃ K, R.length = K := ⟨_, rfl⟩
  have HK := Lib.hid hK
  have ROW : Hid (∀ k, k < K → ∃ (b D : Int) (p : Nat), (∃ h : k < R.length, R[k] = [b, (p : Int), D]) ∧ p < W * H ∧ 0 ≤ b ∧ b ≤ 99 ∧ D ≤ 99 ∧ -1 ≤ D ∧ depOk (gO G W H) ((p % W : Nat) : Int) ((p / W : Nat) : Int) = decide (b0 < b) ∧ (b0 < b → D ≠ -1 → D - b ≤ depV (gO G W H) ((p % W : Nat) : Int) ((p / W : Nat) : Int))) := fun k hk => by
    have hk' : k < R.length := by rw [hK]; exact hk
    obtain ⟨b, D, p, h1, h2⟩ := v4 k hk'
    exact ⟨b, D, p, ⟨hk', h1⟩, h2⟩
  have V3 : Hid (∃ p D : Int, ∃ h : 0 < R.length, R[0] = [b0, p, D]) := by
    obtain ⟨p0, D0, e0⟩ := v3'
    exact ⟨p0, D0, List.getElem?_eq_some_iff.1 e0⟩
  rw [hK] at v1 v2
  obtain ⟨R2, hR2⟩ : ∃ R2, R.filter (deepRow (dp : Int)) = R2 := ⟨_, rfl⟩
  rw [hR2] at VV2
  have HR2 := Lib.hid hR2
  obtain ⟨K2, hK2⟩ : ∃ K2, R2.length = K2 := ⟨_, rfl⟩
  have HK2 := Lib.hid hK2
  have FV1' : Hid (∀ V, MatRd V A1 (gO G W H) → Calls Try.prog 12 #[.agg #[.slice A1 H c1], .int .i64 dp] V fun e w' => ∃ A c vs, e = .returned (.tuple #[.agg #[.slice A H c], .bool true]) ∧ MatAt w' V.heap.size w'.heap.size A c vs (gO F W H) ∧ Below V.heap.size V w') := fun V hV => (FV1.out V hV).mono fun e w' ⟨A, c, vs, h1, h2, h3⟩ => ⟨A, c, vs, by rw [gO_length] at h1; exact h1, h2, h3⟩
  have FV2' : Hid (∀ A2 c2 V, MatRd V A2 (gO F W H) → Calls Try.prog 12 #[.agg #[.slice A2 H c2], .int .i64 dp] V fun e w' => ∃ A c vs, e = .returned (.tuple #[.agg #[.slice A H c], .bool true]) ∧ MatAt w' V.heap.size w'.heap.size A c vs (gO F W H) ∧ Below V.heap.size V w') := fun A2 c2 V hV => (FV2.out A2 c2 V hV).mono fun e w' ⟨A, c, vs, h1, h2, h3⟩ => ⟨A, c, vs, by rw [gO_length] at h1; exact h1, h2, h3⟩
  have VV1' : Hid (∀ V, MatRd V A1 (gO G W H) → Calls Try.prog 13 #[.agg #[.slice A1 H c1]] V fun e w' => ∃ A c vs, e = .returned (.tuple #[.slice A K c, .bool true]) ∧ MatAt w' V.heap.size w'.heap.size A c vs R ∧ Below V.heap.size V w') := fun V hV => (VV1.out V hV).mono fun e w' ⟨A, c, vs, h1, h2, h3⟩ => ⟨A, c, vs, by rw [← hK]; exact h1, h2, h3⟩
  have VV2' : Hid (∀ A2 c2 V, MatRd V A2 (gO F W H) → Calls Try.prog 13 #[.agg #[.slice A2 H c2]] V fun e w' => ∃ A c vs, e = .returned (.tuple #[.slice A K2 c, .bool true]) ∧ MatAt w' V.heap.size w'.heap.size A c vs R2 ∧ Below V.heap.size V w') := fun A2 c2 V hV => (VV2.out A2 c2 V hV).mono fun e w' ⟨A, c, vs, h1, h2, h3⟩ => ⟨A, c, vs, by rw [← hK2]; exact h1, h2, h3⟩
  clear FV1 FV2 VV1 VV2 FP FB v3' v4 ER inb hn1 hr1 fo1 fv1 fo2 fv2 HLIST HOK2 RL2 hn2 hr2 VR1 VR2 GOK RL TW hR hb0 hF hK hR2 hK2 hG AT
  have KC : Hid (∀ V g A c, Blk V g 26 #[.slice A H c] → V.cell? ⟨g, 0, none⟩ = some (.slice A H c)) := fun V g A c hT => by simpa using hT.cell 0
  have k1 := KC.out _ _ _ _ T1
  go_wp2_with fail
  refine (FV1'.out _ M1).mono ?_
  rintro e w2 ⟨A2, c2, vs2, rfl, M2a, hb2⟩
  have hb2' := Ext.more hb2 (.cells #[.slice A2 H c2] 26)
  have T2 := Blk.made w2 26 #[.slice A2 H c2]
  have M2 := M2a.rd.ext (Ext.more (Ext.refl _) (.cells #[.slice A2 H c2] 26))
  have B2 := Ext.then_ B1 hb2'
  replace T1 := T1.under hb2' T1.lt
  replace M1 := M1.ext hb2'
  clear B1 hb2 hb2' M2a k1
  have k2 := KC.out _ _ _ _ T2
  go_wp2_with fail
  refine (FV2'.out _ _ _ M2).mono ?_
  rintro e w3 ⟨A3, c3, vs3, rfl, M3a, hb3⟩
  have hb3' := Ext.more hb3 (.cells #[.slice A3 H c3] 26)
  have T3 := Blk.made w3 26 #[.slice A3 H c3]
  have M3 := M3a.rd.ext (Ext.more (Ext.refl _) (.cells #[.slice A3 H c3] 26))
  have B3 := Ext.then_ B2 hb3'
  replace T1 := T1.under hb3' T1.lt
  replace M1 := M1.ext hb3'
  replace T2 := T2.under hb3' T2.lt
  replace M2 := M2.ext hb3'
  clear B2 hb3 hb3' M3a k2
  have k1 := KC.out _ _ _ _ T1
  go_wp2_with fail
  refine (VV1'.out _ M1).mono ?_
  rintro e w4 ⟨A4, c4, vs4, rfl, M4a, hb4⟩
  have M4 := M4a.rd
  have B4 := Ext.then_ B3 hb4
  replace T1 := T1.under hb4 T1.lt
  replace M1 := M1.ext hb4
  replace T2 := T2.under hb4 T2.lt
  replace M2 := M2.ext hb4
  replace T3 := T3.under hb4 T3.lt
  replace M3 := M3.ext hb4
  clear B3 hb4 M4a k1
  have k2 := KC.out _ _ _ _ T2
  go_wp2_with fail
  refine (VV2'.out _ _ _ M2).mono ?_
  rintro e w5 ⟨A5, c5, vs5, rfl, M5a, hb5⟩
  have M5 := M5a.rd
  have B5 := Ext.then_ B4 hb5
  replace T1 := T1.under hb5 T1.lt
  replace M1 := M1.ext hb5
  replace T2 := T2.under hb5 T2.lt
  replace M2 := M2.ext hb5
  replace T3 := T3.under hb5 T3.lt
  replace M3 := M3.ext hb5
  replace M4 := M4.ext hb5
  clear B4 hb5 M5a k2
  have k1 := KC.out _ _ _ _ T1
  have k2 := KC.out _ _ _ _ T2
  have k3 := KC.out _ _ _ _ T3
  have TBL := Lib.hid (b10Tables_any A3 A2 c3 c2 (gO F W H) w5 M3 M2 (by rw [gO_length]; exact H0) (by rw [gO_length]; omega) (fun i h => by rw [gO_w]; omega))
  rw [gO_length] at TBL
  have SHP := Lib.hid (fun V (hV : Below w5.heap.size w5 V) => b10Shape_any A2 A1 c2 c1 H (gO F W H) (gO G W H) V (M2.ext hV) (M1.ext hV) (gO_length _ _ _) (gO_length _ _ _) H0 (by omega) W (fun y hy => gO_w F W H y hy) (fun y hy => gO_w G W H y hy))
  go_wp2_with fail
  refine TBL.out.mono ?_
  rintro e w6 ⟨rfl, hb6⟩
  have B6 := Ext.then_ B5 hb6
  have SH2 := Lib.hid (SHP.out _ hb6)
  replace T1 := T1.under hb6 T1.lt
  replace M1 := M1.ext hb6
  replace T2 := T2.under hb6 T2.lt
  replace M2 := M2.ext hb6
  replace M4 := M4.ext hb6
  replace M5 := M5.ext hb6
  clear B5 hb6 TBL SHP k1 k2 k3 T3 M3
  have k1 := KC.out _ _ _ _ T1
  have k2 := KC.out _ _ _ _ T2
  go_wp2_with fail
  refine SH2.out.mono ?_
  rintro e w7 ⟨rfl, hb7⟩
  have B7 := Lib.hid (Ext.then_ B6 hb7)
  replace T1 := T1.under hb7 T1.lt
  replace M1 := M1.ext hb7
  replace T2 := T2.under hb7 T2.lt
  replace M2 := M2.ext hb7
  replace M4 := M4.ext hb7
  replace M5 := M5.ext hb7
  clear B6 hb7 SH2 k1 k2
  obtain ⟨g1, rfl, l1, hR1⟩ := gO_rowsW M1 H0 W0
  obtain ⟨g2, rfl, l2', hR2⟩ := gO_rowsW M2 H0 W0
  have k1 := KC.out _ _ _ _ T1
  have k2 := KC.out _ _ _ _ T2
  have FR : Hid (∀ V, Below w7.heap.size w7 V → V.cell? ⟨w1.heap.size, 0, none⟩ = some (.slice (some ⟨g1, 0, none⟩) H c1) ∧ V.cell? ⟨w2.heap.size, 0, none⟩ = some (.slice (some ⟨g2, 0, none⟩) H c2) ∧
      (∀ y, y < H → ∃ r cr, V.cell? ⟨g1, y, none⟩ = some (.slice (some ⟨r, 0, none⟩) W cr) ∧ ∀ x, x < W → V.cell? ⟨r, x, none⟩ = some (.int .i64 (G (y * W + x)))) ∧
      (∀ y, y < H → ∃ r cr, V.cell? ⟨g2, y, none⟩ = some (.slice (some ⟨r, 0, none⟩) W cr) ∧ ∀ x, x < W → V.cell? ⟨r, x, none⟩ = some (.int .i64 (F (y * W + x)))) ∧
      MatRd V A4 R ∧ MatRd V A5 R2 ∧ MatRd V (some ⟨g1, 0, none⟩) (gO G W H) ∧ w1.heap.size < V.heap.size) := fun V hV => by
    refine ⟨(hV.cell (p := ⟨w1.heap.size, 0, none⟩) T1.lt).trans k1, (hV.cell (p := ⟨w2.heap.size, 0, none⟩) T2.lt).trans k2, fun y hy => ?_, fun y hy => ?_, M4.ext hV, M5.ext hV, M1.ext hV, Nat.lt_of_lt_of_le T1.lt hV.size⟩
    · obtain ⟨r, cr, q1, q2, q3⟩ := hR1 y hy
      exact ⟨r, cr, (hV.cell (p := ⟨g1, y, none⟩) l1).trans q1, fun x hx => (hV.cell (p := ⟨r, x, none⟩) q2).trans (q3 x hx)⟩
    · obtain ⟨r, cr, q1, q2, q3⟩ := hR2 y hy
      exact ⟨r, cr, (hV.cell (p := ⟨g2, y, none⟩) l2').trans q1, fun x hx => (hV.cell (p := ⟨r, x, none⟩) q2).trans (q3 x hx)⟩
  clear hR1 hR2 l1 l2' k1 k2 M1 M2 M4 M5 T1 T2
  go_wp2_with fail
  go_loopw [15, 16] (fun yv _ wr => ∃ y : Nat, y ≤ H ∧ yv = .int .i64 y ∧ Below w7.heap.size w7 wr) (fun yv _ _ => H - (intOf yv).toNat)
  case atStart => exact ⟨0, Nat.zero_le _, rfl, Ext.refl _⟩
  case round =>
    obtain ⟨y, hy, rfl, hb⟩ := hrel
    by_cases hlt : y < H
    · have x1 := (FR.out wr hb).1
      have i0 : (0 : Int) ≤ (y : Int) := by omega
      have i1 : (y : Int) < (H : Int) := by omega
      have wy : IntKind.i64.wrap ((y : Int) + 1) = ((y + 1 : Nat) : Int) := by rw [IntWalk.i64_in _ (by omega)]; simp
      go_wp2_with fail
      clear x1
      go_loopw [16] (fun xv wr => ∃ x : Nat, x ≤ W ∧ xv = .int .i64 x ∧ Below w7.heap.size w7 wr) (fun xv _ => W - (intOf xv).toNat)
      case atStart => exact ⟨0, Nat.zero_le _, rfl, hb⟩
      case round =>
        obtain ⟨x, hx, rfl, hbx⟩ := hrel
        clear hb
        obtain ⟨x1, x2, x3, x4, -, -, -, -⟩ := FR.out wr hbx
        obtain ⟨ra, qa, za, zb⟩ := x3 y hlt
        obtain ⟨rb, qb, zc, zd⟩ := x4 y hlt
        by_cases hxl : x < W
        · have ca := zb x hxl
          have cb := zd x hxl
          have ge := FGE.out _ (pl_lt hxl hlt)
          generalize G (y * W + x) = gv at *
          generalize F (y * W + x) = fv at *
          have t1 : decide (fv < gv) = false := decide_eq_false (by omega)
          have j0 : (0 : Int) ≤ (x : Int) := by omega
          have j1 : (x : Int) < (W : Int) := by omega
          have wx : IntKind.i64.wrap ((x : Int) + 1) = ((x + 1 : Nat) : Int) := by rw [IntWalk.i64_in _ (by omega)]; simp
          clear zb zd x3 x4 ge
          go_wp2_with fail
          go_quiet (fail)
          go_wp2_with fail
          go_roundw
          case rel => exact ⟨x + 1, by omega, by go_num, Ext.drawN hbx _⟩
          case measure => simp [intOf]; omega
        · obtain rfl : x = W := by omega
          clear zb zd x3 x4
          go_wp2_with fail
          go_roundw
          case rel => exact ⟨y + 1, by omega, by go_num, hbx⟩
          case measure => simp [intOf]; omega
    · obtain rfl : H = y := by omega
      obtain ⟨x1, -, x3, -, x5, x6, -, -⟩ := FR.out wr hb
      obtain ⟨ra, qa, za, -⟩ := x3 0 H0
      obtain ⟨p0, D0, h00, e00⟩ := V3.out
      obtain ⟨g4, r4, cr4, rfl, -, -, y0, y1, -, -, -⟩ := mat_rowW x5 h00 e00
      have i0 : (0 : Int) < (H : Int) := by omega
      have i1 : (0 : Int) < (K : Int) := by omega
      clear x3 x5 x6 h00 e00 V3
      have HB0 := Lib.hid hb
      clear hb
      go_wp2_with fail
      go_loopw [17, 20, 21, 22, 23] (fun av iv _ _ _ wr => ∃ i : Nat, i ≤ K ∧ iv = .int .i64 i ∧ av = .int .i64 (((R.take i).filter (deepRow (dp : Int))).length : Nat) ∧ Below w7.heap.size w7 wr) (fun _ iv _ _ _ _ => K - (intOf iv).toNat)
      case atStart => exact ⟨0, Nat.zero_le _, rfl, rfl, HB0.out⟩
      case round =>
        obtain ⟨i, hi, rfl, rfl, hb⟩ := hrel
        clear HB0 x1 za y0 y1
        by_cases hil : i < K
        · obtain ⟨b, D, p, ⟨hkr, er⟩, hp, b0', b9, D9, D0, dok, ddv⟩ := ROW.out i hil
          obtain ⟨x1, -, -, -, x5, x6, x7, x8⟩ := FR.out wr hb
          obtain ⟨g4', r, cr, e2, lg, lr, y0, y1, y2, y3, rd⟩ := mat_rowW x5 hkr er
          simp only [Option.some.injEq, Addr.mk.injEq, and_true] at e2
          subst e2
          have CT := cnt_takeW (f := deepRow (dp : Int)) hkr
          have LR : deepRow (dp : Int) R[i] = (decide (D = -1) || decide ((dp : Int) ≤ D - b)) := by rw [er]; rfl
          obtain ⟨dk, hdk⟩ : ∃ dk, deepRow (dp : Int) R[i] = dk := ⟨_, rfl⟩
          have AT2 : Hid (dk = true → R2[((R.take i).filter (deepRow (dp : Int))).length]? = some [b, (p : Int), D]) := fun h => by
            have := filter_at (f := deepRow (dp : Int)) hkr (by rw [hdk]; exact h)
            rw [HR2.out, er] at this
            exact this
          rw [hdk] at CT LR
          have cB : ((R.take i).filter (deepRow (dp : Int))).length ≤ K := Nat.le_trans (List.length_filter_le _ _) (by rw [List.length_take]; have := HK.out; omega)
          have HCT := Lib.hid CT
          obtain ⟨ct, hct⟩ : ∃ ct, ((R.take i).filter (deepRow (dp : Int))).length = ct := ⟨_, rfl⟩
          rw [hct] at HCT cB AT2
          rw [hct]
          have HLR := Lib.hid LR
          have X6 := Lib.hid x6
          have X7 := Lib.hid x7
          have RD := Lib.hid rd
          have DD := Lib.hid ddv
          have DOK := Lib.hid dok
          have HPN := Lib.hid hp
          have j0 : (0 : Int) ≤ (i : Int) := by omega
          have j1 : (i : Int) < (K : Int) := by omega
          have wj : IntKind.i64.wrap ((i : Int) + 1) = ((i + 1 : Nat) : Int) := by rw [IntWalk.i64_in _ (by omega)]; simp
          have wc' : IntKind.i64.wrap ((ct : Int) + 1) = ((ct + 1 : Nat) : Int) := by rw [IntWalk.i64_in _ (by omega)]; simp
          have wdb : IntKind.i64.wrap (D - b) = D - b := IntWalk.i64_in _ (by omega)
          clear x5 x6 x7 hkr er CT LR hct hdk dok ddv hp rd
          go_upto_region 26 with fail
          go_cut [151] (fun cv wx => cv = .bool dk ∧ Below wr.heap.size wr wx)
          case first =>
            by_cases c2 : D = -1
            · have t2 : (D == -1) = true := by simpa using c2
              have E : Hid (dk = true) := by rw [Hid, HLR.out, decide_eq_true c2]; rfl
              clear c2 HLR
              go_wp2_with fail
              go_quiet (fail)
              go_wp2_with fail
              go_meet
              exact ⟨by rw [E.out], Ext.drawN (Ext.refl _) _⟩
            · have t2 : (D == -1) = false := by simpa using c2
              have E : Hid (dk = decide ((dp : Int) ≤ D - b)) := by rw [Hid, HLR.out, decide_eq_false c2]; rfl
              clear c2 HLR
              go_wp2_with fail
              go_quiet (fail)
              go_wp2_with fail
              go_meet
              exact ⟨by rw [E.out], Ext.drawN (Ext.refl _) _⟩
          case rest =>
            obtain ⟨rfl, hbc⟩ := hcut
            have hb1 := Ext.then_ hb hbc
            go_upto_if 151 with fail
            go_cut [17] (fun av wx => av = .int .i64 (((R.take (i + 1)).filter (deepRow (dp : Int))).length : Nat) ∧ Below wc.heap.size wc wx)
            case first =>
              cases dk with
              | false =>
                have E : Hid (((R.take (i + 1)).filter (deepRow (dp : Int))).length = ct) := by rw [Hid, HCT.out]; rfl
                clear HCT AT2
                go_wp2_with fail
                go_meet
                exact ⟨by rw [E.out], Ext.refl _⟩
              | true =>
                have E : Hid (((R.take (i + 1)).filter (deepRow (dp : Int))).length = ct + 1) := by rw [Hid, HCT.out]; rfl
                obtain ⟨hk2, e2⟩ := List.getElem?_eq_some_iff.1 (AT2.out rfl)
                have m6 := X6.out.ext (hbc)
                obtain ⟨g5, r5, cr5, rfl, -, -, z0, -, -, -, rd5⟩ := mat_rowW m6 hk2 e2
                have y0' := (hbc.cell (p := ⟨g4, i, none⟩) lg).trans y0
                have NU : Hid (Calls Try.prog 16 #[.slice (some ⟨r5, 0, none⟩) 3 cr5, .slice (some ⟨r, 0, none⟩) 3 cr] wc fun e w' => e = .returned (.bool true) ∧ ∃ k, w' = wc.drewN k) := b10Nums_any (some ⟨r5, 0, none⟩) (some ⟨r, 0, none⟩) cr5 cr [b, (p : Int), D] wc rd5 (RD.out.ext hbc) (by simp)
                have tK : decide (K2 ≤ ct) = false := decide_eq_false (by have := HK2.out; omega)
                have q0 : (0 : Int) ≤ (ct : Int) := by omega
                have q1 : (ct : Int) < (K2 : Int) := by have := HK2.out; omega
                clear HCT AT2 hk2 e2 m6 rd5
                go_wp2_with fail
                refine NU.out.mono ?_
                rintro e w8 ⟨rfl, k8, rfl⟩
                go_wp2_with fail
                go_meet
                exact ⟨by rw [E.out]; simp, Ext.drawN (Ext.refl _) _⟩
            case rest =>
              obtain ⟨rfl, hbn⟩ := hcut
              obtain ⟨ct2, hct2⟩ : ∃ ct2, ((R.take (i + 1)).filter (deepRow (dp : Int))).length = ct2 := ⟨_, rfl⟩
              have HC2 := Lib.hid hct2
              rw [hct2]
              have hbw := Ext.then_ hbc hbn
              have hb2 := Ext.then_ hb hbw
              obtain ⟨x1', -, -, -, -, -, x7, l8⟩ := FR.out wc hb2
              have lr' : r < wc.heap.size := Nat.lt_of_lt_of_le lr hbw.size
              have z0 := (hbw.cell (p := ⟨r, 0, none⟩) lr).trans y1
              have z1 := (hbw.cell (p := ⟨r, 1, none⟩) lr).trans y2
              have z2 := (hbw.cell (p := ⟨r, 2, none⟩) lr).trans y3
              have DP := Lib.hid (fun V (hV : Below wc.heap.size wc V) => DV.out ((p % W : Nat) : Int) ((p / W : Nat) : Int) V (x7.ext hV))
              rw [DOK.out] at DP
              obtain ⟨dv, hdv⟩ : ∃ dv, depV (gO G W H) ((p % W : Nat) : Int) ((p / W : Nat) : Int) = dv := ⟨_, rfl⟩
              have DD2 : Hid (b0 < b → D ≠ -1 → D - b ≤ dv) := by rw [← hdv]; exact DD.out
              rw [hdv] at DP
              have hq : (p : Int).tdiv (W : Int) = ((p / W : Nat) : Int) := by rw [Int.tdiv_eq_ediv_of_nonneg (by omega)]; rfl
              have hm' : (p : Int).tmod (W : Int) = ((p % W : Nat) : Int) := by rw [Int.tmod_eq_emod_of_nonneg (by omega)]; rfl
              obtain ⟨py, hpy'⟩ : ∃ py, p / W = py := ⟨_, rfl⟩
              obtain ⟨px, hpx'⟩ : ∃ px, p % W = px := ⟨_, rfl⟩
              rw [hpy'] at hq DP
              rw [hpx'] at hm' DP
              have w0 : ¬ (W : Int) = 0 := by omega
              have w0n : ¬ W = 0 := by omega
              have h36 : W * H ≤ 36 := Nat.le_trans (Nat.mul_le_mul W6 H6) (by decide)
              have pyB : py ≤ 36 := by rw [← hpy']; exact Nat.le_trans (Nat.div_le_self _ _) (by have := HPN.out; omega)
              have wq : IntKind.i64.wrap (py : Int) = (py : Int) := IntWalk.i64_in _ (by omega)
              obtain ⟨fb, hfb⟩ : ∃ fb, decide (b0 < b) = fb := ⟨_, rfl⟩
              rw [hfb] at DP
              have HFB := Lib.hid hfb
              clear x1 y0 y1 y2 y3 x7 hdv hpy' hpx' hct2 hfb h36 pyB
              go_upto_region 30 with fail
              go_region_held3 (fun V => V.cell? ⟨w1.heap.size, 0, none⟩ = some (.slice (some ⟨g1, 0, none⟩) H c1) ∧ V.cell? ⟨r, 1, none⟩ = some (.int .i64 p))
                (first | ((go_split_ands; refine ⟨?_, ?_⟩ <;> exact (hb'.cell (p := ⟨_, _, none⟩) (by first | omega | (simp; omega) | simp)).trans (by assumption))) | go_keep)
                (first
                  | (go_at_call 17; refine (DP.out _ (Ext.draw (Ext.refl _))).mono ?_; rintro e w8 ⟨rfl, hb'⟩))
              all_goals as_aux_lemma =>
                have hb8 := Ext.undraw hb'
                clear hb' DP z1 x1'
                have z0' := (hb8.cell (p := ⟨r, 0, none⟩) lr').trans z0
                have z2' := (hb8.cell (p := ⟨r, 2, none⟩) lr').trans z2
                have hB8 := Lib.hid (Ext.then_ hb2 hb8)
                have tf : (fb != fb) = false := by simp
                clear z0 z2 hb8 hb2 hbw hbn l8 lr'
                cases fb with
                | false =>
                  have tb : decide (b0 < b) = false := HFB.out
                  clear DD2 HFB
                  go_wp2_with fail
                  go_quiet (fail)
                  go_wp2_with fail
                  go_roundw
                  case rel => exact ⟨i + 1, by omega, by go_num, by rw [HC2.out], Ext.drawN hB8.out _⟩
                  case measure => simp [intOf]; omega
                | true =>
                  have tb : decide (b0 < b) = true := HFB.out
                  have lt0 := of_decide_eq_true tb
                  by_cases c0 : D = -1
                  · have t0 : decide ((0 : Int) ≤ D) = false := decide_eq_false (by omega)
                    clear DD2 HFB c0 lt0
                    go_wp2_with fail
                    go_quiet (fail)
                    go_wp2_with fail
                    go_roundw
                    case rel => exact ⟨i + 1, by omega, by go_num, by rw [HC2.out], Ext.drawN hB8.out _⟩
                    case measure => simp [intOf]; omega
                  · have t0 : decide ((0 : Int) ≤ D) = true := decide_eq_true (by omega)
                    have t1 : decide (dv < D - b) = false := decide_eq_false (by have := DD2.out lt0 c0; omega)
                    clear DD2 HFB c0 lt0
                    go_wp2_with fail
                    go_quiet (fail)
                    go_wp2_with fail
                    go_roundw
                    case rel => exact ⟨i + 1, by omega, by go_num, by rw [HC2.out], Ext.drawN hB8.out _⟩
                    case measure => simp [intOf]; omega
        · obtain rfl : K = i := by omega
          have TK : R.take K = R := List.take_of_length_le (by rw [HK.out]; omega)
          rw [TK, HR2.out, HK2.out]
          have HB := Lib.hid (Ext.then_ B7.out hb)
          clear hb TK
          go_wp2_with fail
          go_ret
          exact ⟨rfl, HB.out⟩
end Go.Proofs.Ytkamkjbllmgifaa
