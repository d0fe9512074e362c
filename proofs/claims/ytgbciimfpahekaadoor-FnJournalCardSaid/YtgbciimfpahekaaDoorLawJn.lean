/- The law FnJournal, walked. -/
import Derived.Test.YtgbciimfpahekaaDoorR10
import Derived.Test.YtgbciimfpahekaaDoorJnQ
import Derived.Test.YtgbciimfpahekaaDoorJnJ
namespace Go.Proofs.YtgbciimfpahekaaDoor
open Go.RowKit Go.Shelf

theorem conv_one (w : World) (z : Nat) (hz : z < 256) : (convert 32 9 (.slice (some ⟨w.heap.size, 0, none⟩) 1 1)).run Tryd.prog ((w.alloc (.cells #[.int .u8 (IntKind.u8.wrap (z : Int))] 5)).drew) = .ok (.string ⟨#[UInt8.ofNat z]⟩) ((w.alloc (.cells #[.int .u8 (IntKind.u8.wrap (z : Int))] 5)).drew) := by
  have ev : (Value.int .u8 (IntKind.u8.wrap (z : Int))) = .int .u8 (((UInt8.ofNat z).toNat : Nat) : Int) := by
    have h1 : IntKind.u8.wrap (z : Int) = (z : Int) := by simp [IntKind.wrap, IntKind.signed, IntKind.bits]; omega
    have h2 : (UInt8.ofNat z).toNat = z := by simp; omega
    rw [h1, h2]
  rw [ev]
  have O := World.ownsRow_lit (e := 5) (size := 1) w #[.int .u8 (((UInt8.ofNat z).toNat : Nat) : Int)] 1 (Nat.le_refl _) (by decide) rfl
  exact str_of_own (w := (w.alloc (.cells #[.int .u8 (((UInt8.ofNat z).toNat : Nat) : Int)] 5)).drew) (l := [UInt8.ofNat z]) O.drew rfl
set_option maxRecDepth 100000 in
set_option maxHeartbeats 8000000 in
theorem walkJournal (w : World) (A : Option Addr) (n c : Nat) (l : List Int) (hl : BytesAt w A n l) (hn : n ≤ maxLen) (A' : Option Addr) (m c' : Nat) (l' : List Int) (hl' : BytesAt w A' m l') (hm : m ≤ maxLen) (hT : TabOk w) :
    Calls Tryd.prog 5 #[.slice A n c, .slice A' m c'] w fun e w' => e = .returned (.bool true) ∧ Below w.heap.size w w' := by
  have LO := Lib.hid (b10Long_any A A' n c m c' hn hm w)
  have DK := Lib.hid (b10Desk_any A' m c' l' w hl' hm)
  have LN := Lib.hid (fun V (hb : Below w.heap.size w V) G c1 G2 c2 names => b10Lines_any A n c l G c1 G2 c2 names V (hl.ext hb) hn)
  have AT := Lib.hid (fun k (hk : k ≤ 10) V (hb : Below w.heap.size w V) => b10At_any A' m c' l' k 256 V (hl'.ext hb) (by decide) (by decide) hk hm)
  have TB := Lib.hid (fun V (hb : Below w.heap.size w V) => hT.ext hb)
  clear hl hl' hT
  cases hlong : (decide (1048576 < n) || decide (1048576 < m))
  · rw [hlong] at LO
    go_enter Tryd.func5, Tryd.ntmps5
    go_wp2_with fail
    refine LO.out.mono ?_
    rintro e w1 ⟨rfl, rfl⟩
    clear LO hlong
    go_wp2_with fail
    refine DK.out.mono ?_
    rintro e w1 ⟨G, c1, G2, c2, names, rfl, hlen, hok, hrd, B1⟩
    have L1 := Lib.hid (LN.out w1 B1 G c1 G2 c2 names hrd hlen hok)
    clear DK LN hrd hlen hok
    go_wp2_with fail
    refine L1.out.mono ?_
    rintro e w2 ⟨G', d', lines, rfl, h6, hpc, hrl, hb2⟩
    have B2 := Ext.then_ B1 hb2
    have JN := Lib.hid (journalOf_any G' d' lines w2 hrl (by omega) (fun r hr => by have := (hpc r hr).2; omega) (TB.out w2 B2))
    have HJ : jOk lines = true := jOk_yes (fun r hr => (hpc r hr).1) (jl_small lines h6 hpc)
    rw [HJ] at JN
    have B3f := Lib.hid (fun V (hb : Below w2.heap.size w2 V) => Ext.then_ B2 hb)
    have RL := Lib.hid (fun V (hb : Below w2.heap.size w2 V) => (hrl.ext hb).str)
    have CUT := Lib.hid (fun a ha => cut_of hpc h6 a ha)
    have RC := Lib.hid (fun (s : ByteArray) (hs : s.size ≤ 6000) V (hb : Below w2.heap.size w2 V) => recover_any s V (by omega) (TB.out V (Ext.then_ B2 hb)))
    have JO := Lib.hid (fun G d (rows : List ByteArray) V (hb : Below w2.heap.size w2 V) (hr : Rd V G (strs rows)) (h1 : rows.length ≤ 6000) (h2 : ∀ r ∈ rows, r.size ≤ 6000) => journalOf_any G d rows V hr (by omega) (fun r hr => by have := h2 r hr; omega) (TB.out V (Ext.then_ B2 hb)))
    have E0 : (jV lines).size = 0 → lines.length = 0 := fun h0 => by
      rw [jV_yes HJ, mkB_size] at h0
      have h1 := (tot3_jl lines lines.length (Nat.le_refl _)).1
      have h2 := tot3_len lines lines.length (Nat.le_refl _)
      rw [show (lines.map bl).take lines.length = lines.map bl by rw [List.take_of_length_le (by simp)]] at h1
      omega
    have hts : (jV lines).size ≤ 6000 := by rw [jV_yes HJ, mkB_size]; exact jl_small lines h6 hpc
    have HPC := Lib.hid hpc
    clear L1 B1 hb2 HJ hrl TB hpc
    go_wp2_with fail
    refine JN.out.mono ?_
    rintro e w3 ⟨rfl, hb3⟩
    clear JN
    generalize jV lines = t at *
    by_cases hz : t.size = 0
    · have e0 := E0 hz
      have t0 : (t.size : Int) = 0 := by omega
      have t1 : (lines.length : Int) = 0 := by omega
      have HB := Lib.hid (B3f.out _ hb3)
      clear hz e0
      go_wp2_with fail
      go_ret
      exact ⟨rfl, HB.out⟩
    · have t0 : ¬ (t.size : Int) = 0 := by omega
      clear E0
      go_wp2_with fail
      refine (AT.out 0 (by decide) w3 (B3f.out _ hb3)).mono ?_
      rintro e w4 ⟨⟨x, hx, rfl⟩, rfl⟩
      go_wp2_with fail
      refine (AT.out 1 (by decide) w3 (B3f.out _ hb3)).mono ?_
      rintro e w4 ⟨⟨y, hy, rfl⟩, rfl⟩
      obtain ⟨a, ha⟩ : ∃ a, (x * 256 + y) % t.size = a := ⟨_, rfl⟩
      have hat : a < t.size := by rw [← ha]; exact Nat.mod_lt _ (by omega)
      have ea : ((x : Int) * 256 + y).tmod t.size = (a : Int) := by
        rw [← ha, show (x : Int) * 256 + y = ((x * 256 + y : Nat) : Int) by simp, Int.tmod_eq_emod_of_nonneg (by omega)]
        exact (Int.natCast_emod _ _).symm
      clear ha
      obtain ⟨k, CP, CB⟩ := CUT.out a hat
      have CP := Lib.hid CP
      have CB := Lib.hid CB
      have q0 : (0 : Int) ≤ (a : Int) := by omega
      have q1 : (a : Int) ≤ (t.size : Int) := by omega
      have q2 : ¬ (t.size : Int) ≤ (a : Int) := by omega
      have C1 := RC.out (t.extract 0 a) (by rw [ByteArray.size_extract]; omega) w3 hb3
      unfold RcRes at C1
      have JR := CP.out.j
      have VR := CP.out.v
      have NR := CP.out.n
      have RR := CP.out.r
      rw [CP.out.b] at C1
      obtain ⟨R, hR⟩ : ∃ R, rcR (t.extract 0 a) = R := ⟨_, rfl⟩
      obtain ⟨N, hN⟩ : ∃ N, rcN (t.extract 0 a) = N := ⟨_, rfl⟩
      rw [hR, hN] at C1
      rw [hR] at JR VR RR
      rw [hN] at VR NR
      have HN := Lib.hid hN
      have hkl := CP.out.lt
      have hRk : R.length = k := by rw [RR]; simp; omega
      have C1 := Lib.hid C1
      have RR := Lib.hid RR
      clear hR hN
      go_wp2_with fail
      refine C1.out.mono ?_
      rintro e w4 ⟨Ap, cp, rfl, ownp, hb4⟩
      have hb4' := Ext.then_ hb3 hb4
      have J1 := Lib.hid (JO.out Ap cp R w4 hb4' (Rd.of_own ownp) (by omega) (fun r hr => by rw [RR.out] at hr; have := (HPC.out r (List.mem_of_mem_take hr)).2; omega))
      rw [JR, VR, hRk] at J1
      have OWP := Lib.hid ownp
      rw [hRk]
      clear C1 JR hb4 ownp VR
      go_wp2_with fail
      refine J1.out.mono ?_
      rintro e w5 ⟨rfl, hb5⟩
      have hb5' := Ext.then_ hb4' hb5
      clear J1
      have K0 : Hid (((bl t).take a).count 10 = k) := by
        have := CP.out.c
        rw [ext_mkB, bl_mkB] at this
        simpa [Hid] using this
      have KS : Hid (∀ i (h : i < t.size), ((bl t).take (i + 1)).count 10 = ((bl t).take i).count 10 + (if t[i] = 10 then 1 else 0)) := fun i h => by
        rw [List.take_succ_eq_append_getElem (by rw [bl_len]; exact h), List.count_append]
        congr 1
        have e : (bl t)[i]'(by rw [bl_len]; exact h) = t[i] := rfl
        rw [e]
        by_cases h10 : t[i] = 10
        · rw [if_pos h10, h10]; rfl
        · rw [if_neg h10, List.count_eq_zero]; simpa using fun e => h10 e.symm
      go_wp2_with fail
      go_loop [14, 15] (fun wv iv => ∃ i : Nat, i ≤ a ∧ iv = .int .i64 i ∧ wv = .int .i64 ((((bl t).take i).count 10 : Nat) : Int)) (fun _ iv => a - (intOf iv).toNat)
      case atStart => exact ⟨0, Nat.zero_le _, rfl, by simp⟩
      case round =>
        obtain ⟨i, hi, rfl, rfl⟩ := hrel
        by_cases hlt : i < a
        · have hit : i < t.size := by omega
          have K1 := KS.out i hit
          have i0 : (0 : Int) ≤ (i : Int) := by omega
          have i1 : (i : Int) < (t.size : Int) := by omega
          have i2 : (i : Int) < (a : Int) := by omega
          have KL : ((bl t).take i).count 10 ≤ 6000 := Nat.le_trans List.count_le_length (by simp; omega)
          by_cases h10 : t[i] = 10
          · rw [if_pos h10] at K1
            have hv : ((t[i].toNat : Nat) : Int) = 10 := by rw [h10]; rfl
            have K1 := Lib.hid K1
            clear h10
            generalize ((bl t).take i).count 10 = z at *
            go_wp2_with fail
            go_round
            case rel => exact ⟨i + 1, by omega, by go_num, by rw [K1.out]; go_num⟩
            case measure => simp [intOf]; omega
          · rw [if_neg h10] at K1
            have hv : (((t[i].toNat : Nat) : Int) == 10) = false := byte_ne (b := 10) h10
            have K1 := Lib.hid K1
            clear h10
            generalize ((bl t).take i).count 10 = z at *
            go_wp2_with fail
            go_round
            case rel => exact ⟨i + 1, by omega, by go_num, by rw [K1.out]; go_num⟩
            case measure => simp [intOf]; omega
        · obtain rfl : i = a := by omega
          rw [K0.out]
          clear K0 KS
          have n0 : ¬ (N : Int) < 0 := by omega
          have n1 : ¬ (i : Int) < (N : Int) := by omega
          have n2 : (0 : Int) ≤ (N : Int) := by omega
          have n3 : (N : Int) ≤ (t.size : Int) := by omega
          have RA := Lib.hid (((Rd.of_own OWP.out).ext hb5).str)
          have RL2 := Lib.hid (RL.out w5 hb5')
          clear RL OWP
          go_wp2_with fail
          go_loopw [16] (fun iv wr => ∃ q : Nat, q ≤ k ∧ iv = .int .i64 q ∧ Below w5.heap.size w5 wr) (fun iv _ => k - (intOf iv).toNat)
          case atStart => exact ⟨0, Nat.zero_le _, rfl, Ext.refl _⟩
          case round =>
            obtain ⟨q, hq, rfl, hbr⟩ := hrel
            by_cases hlt2 : q < k
            · obtain ⟨gA, rfl, hgA, cA⟩ := RA.out (by omega)
              obtain ⟨gL, rfl, hgL, cL⟩ := RL2.out (by omega)
              have c1 := cA q (by omega)
              have c2 := cL q (by omega)
              have e : R[q]'(by omega) = lines[q]'(by omega) := by
                have := RR.out
                subst this
                simp
              rw [e] at c1
              clear cA cL e
              generalize lines[q]'(by omega) = x at *
              have i0 : (0 : Int) ≤ (q : Int) := by omega
              have i1 : (q : Int) < (k : Int) := by omega
              have i2 : (q : Int) < (lines.length : Int) := by omega
              have d1 := (hbr.cell (p := ⟨gA, q, none⟩) hgA).trans c1
              have d2 := (hbr.cell (p := ⟨gL, q, none⟩) hgL).trans c2
              have g1 : gA < wr.heap.size := Nat.lt_of_lt_of_le hgA hbr.size
              have g2 : gL < wr.heap.size := Nat.lt_of_lt_of_le hgL hbr.size
              go_upto_region 23 with fail
              refine wp_region_held_quiet (fun U => Below wr.heap.size wr U) (by kernel_rfl) (by kernel_rfl) (Ext.refl _).drew ?_
              have ne : Nonempty (HeldW (fun U => Below wr.heap.size wr U)) := ⟨⟨wr, Ext.refl _⟩⟩
              have v0 : ∀ i : HeldW (fun U => Below wr.heap.size wr U), i.w.cell? ⟨gA, q, none⟩ = _ := fun i => (i.h.cell (p := ⟨gA, q, none⟩) g1).trans d1
              have v1 : ∀ i : HeldW (fun U => Below wr.heap.size wr U), i.w.cell? ⟨gL, q, none⟩ = _ := fun i => (i.h.cell (p := ⟨gL, q, none⟩) g2).trans d2
              repeat (go_big_quiet_step (fail))
              refine wpQuiet_nil ?_
              intro w6 hw'
              obtain ⟨⟨_, hb6⟩, rfl⟩ := hw'
              clear ne v0 v1
              have hb7 := Ext.then_ hbr hb6
              go_wp2_with fail
              go_roundw
              case rel => exact ⟨q + 1, by omega, by go_num, hb7⟩
              case measure => simp [intOf]; omega
            · obtain rfl : q = k := by omega
              have hbx := Ext.then_ hb5' hbr
              have q5 : (i : Int) + 1 ≤ (t.size : Int) := by omega
              have q6 : (0 : Int) ≤ (i : Int) + 1 := by omega
              clear RA RL2 n0 n1 hbr hb5' hb5 hb4'
              have e3 : ((i : Int) + 1).toNat = i + 1 := by omega
              have e4 : IntKind.i64.wrap ((i : Int) + 1) = (i : Int) + 1 := IntWalk.i64_in _ (by omega)
              obtain ⟨p1, e1⟩ : ∃ p1, t.extract 0 i = p1 := ⟨_, rfl⟩
              obtain ⟨p2, e2⟩ : ∃ p2, t.extract (i + 1) t.size = p2 := ⟨_, rfl⟩
              have s1 : p1.size = i := by rw [← e1, ByteArray.size_extract]; omega
              have s2 : p2.size ≤ 6000 := by rw [← e2, ByteArray.size_extract]; omega
              have x1 : ¬ 9223372036854775807 < p1.size + 1 := by omega
              have x2 : ¬ 9223372036854775807 < p1.size + 1 + p2.size := by omega
              have S1 := Lib.hid s1
              have S2 := Lib.hid s2
              clear s1 s2
              go_upto_region 25 with fail
              go_region_law (go_simp; go_at_call 18; refine (AT.out 2 (by decide) _ (B3f.out _ (by first | exact hbx | exact Ext.draw hbx))).mono ?_; rintro e w6 ⟨⟨z, hz, rfl⟩, rfl⟩; have FC := conv_one wr z (by omega))
              all_goals
                go_wp2_with fail
                have hq : p1 ++ ⟨#[UInt8.ofNat z]⟩ ++ p2 = mkB (bl (t.extract 0 i) ++ UInt8.ofNat z :: bl p2) := by
                  rw [e1]
                  apply ByteArray.ext
                  simp [mkB, bl]
                obtain ⟨b1, b2, b3, b4, b5, b6, b7⟩ := CB.out (UInt8.ofNat z :: bl p2) (by
                  rw [List.length_cons, bl_len, ← e2, ByteArray.size_extract]; omega) _ hq
                have hzw : (IntKind.u8.wrap (z : Int)) = (z : Int) := by simp [IntKind.wrap, IntKind.signed, IntKind.bits]; omega
                have hby : Below w2.heap.size w2 ((wr.alloc (.cells #[.int .u8 (z : Int)] 5)).drew) := (Ext.then_ hbx (Ext.draw (Ext.more (Ext.refl wr) _)))
                clear FC hq e1 e2 x1 x2 hbx
                generalize p1 ++ ⟨#[UInt8.ofNat z]⟩ ++ p2 = qq at *
                have hqs : qq.size ≤ 6000 := by simpa [rcB] using b1
                rw [HN.out] at b3
                have C2 := RC.out qq hqs _ hby
                unfold RcRes at C2
                rw [b1] at C2
                have C2 := Lib.hid C2
                generalize (wr.alloc (.cells #[.int .u8 (z : Int)] 5)).drew = wZ at *
                obtain ⟨R2, hR2⟩ : ∃ R2, rcR qq = R2 := ⟨_, rfl⟩
                obtain ⟨M, hM⟩ : ∃ M, rcN qq = M := ⟨_, rfl⟩
                rw [hR2, hM] at C2
                rw [hR2] at b2 b5 b6 b7
                rw [hM] at b3 b4 b5
                clear hR2 hM
                refine C2.out.mono ?_
                rintro e w8 ⟨Aq, cq, rfl, ownq, hb8⟩
                have hb8' := Ext.then_ hby hb8
                have J2 := Lib.hid (JO.out Aq cq R2 w8 hb8' (Rd.of_own ownq) b6 b7)
                rw [b2, b5] at J2
                clear C2 ownq b6 b7 hb8
                go_wp2_with fail
                refine J2.out.mono ?_
                rintro e w9 ⟨rfl, hb9⟩
                have HF := Lib.hid (B3f.out _ (Ext.then_ hb8' hb9))
                have v1 : (N : Int) ≤ (M : Int) := by omega
                have v2 : (M : Int) ≤ (qq.size : Int) := by omega
                have v3 : (0 : Int) ≤ (M : Int) := by omega
                clear J2
                go_wp2_with fail
                go_ret
                exact ⟨rfl, HF.out⟩
  · rw [hlong] at LO
    go_enter Tryd.func5, Tryd.ntmps5
    go_wp2_with fail
    refine LO.out.mono ?_
    rintro e w1 ⟨rfl, rfl⟩
    go_wp2_with fail
    go_ret
    exact ⟨rfl, Ext.refl _⟩
end Go.Proofs.YtgbciimfpahekaaDoor
