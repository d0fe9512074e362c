/- The law FnPackedSteps: its walk. -/
import Derived.Test.YtogefmkplkddoaaDoorPks
namespace Go.Proofs.YtogefmkplkddoaaDoor
open Go.RowKit

set_option maxRecDepth 100000 in
set_option maxHeartbeats 2000000 in
theorem lawPks_any (A B : Option Addr) (n cA m cB : Nat) (l1 : List Int) (w : World) (hA : BytesAt w A n l1) (hn : n ≤ maxLen) (hm : m ≤ maxLen) :
    Calls Tryd.prog 6 #[.slice A n cA, .slice B m cB] w fun e w' => e = .returned (.bool true) ∧ Below w.heap.size w w' := by
  have LH := Lib.hid (fun W => long_any A B n cA m cB hn hm W)
  generalize (decide (48 < n) || decide (48 < m)) = b at LH
  cases b
  case true =>
    clear hA
    go_enter Tryd.func6, Tryd.ntmps6
    go_wp2_with fail
    refine (LH.out _).mono ?_
    rintro e w' ⟨rfl, rfl⟩
    go_wp2_with fail
    go_ret
    exact ⟨rfl, Ext.refl _⟩
  have R8 := Lib.hid (r8Steps_any A n cA l1 w hA hn)
  clear hA
  go_enter Tryd.func6, Tryd.ntmps6
  go_wp2_with fail
  refine (LH.out _).mono ?_
  rintro e w' ⟨rfl, rfl⟩
  go_wp2_with fail
  refine (R8.out).mono ?_
  rintro e w1 ⟨L, κ, q, rfl, hW, hL, hb1⟩
  have F := wk_facts hW
  have hκ := F.lt
  obtain ⟨o, ho⟩ := F.pre
  have hlen : L.length = o.length + 1 := by rw [ho]; simp
  have hq := (pkTo_len _ _ F.pk).1
  obtain ⟨p1, p2, p3, p4, p5, _⟩ := wk_law hW (by omega) (by omega)
  obtain ⟨s, hs⟩ : ∃ s, ByteArray.mk L.toArray = s := ⟨_, rfl⟩
  obtain ⟨pk, hpk⟩ : ∃ pk, ByteArray.mk q.toArray = pk := ⟨_, rfl⟩
  have sL : s.data.toList = L := by rw [← hs]
  have pq : pk.data.toList = q := by rw [← hpk]
  have sz : s.size = L.length := by rw [← hs]; simp [ByteArray.size]
  have pz : pk.size = q.length := by rw [← hpk]; simp [ByteArray.size]
  have PS := Lib.hid (fun V => packStepsI_any s V)
  have E1 := pk_yes (s := s) (o := q) (by rw [sL]; exact p1)
  rw [E1.1, E1.2, hpk] at PS
  have US := Lib.hid (fun V => unpackSteps_any pk V)
  have E2 : upV pk = s ∧ upB pk = true := ⟨by rw [upV, pq, if_pos p2, p3]; exact hs, by rw [upB, pq]; exact p2⟩
  rw [E2.1, E2.2] at US
  have AT : Hid (∀ (k : Nat) (h : k < s.size), s[k]'h = L.getD k 0) := fun k h => by rw [← byte_at s k h, sL]
  have LAST : L.getD o.length 0 = lettr κ := by rw [ho]; simp
  have BK := Lib.hid (fun V => r8Back_any κ hκ V)
  have hz1 : 1 ≤ s.size := by omega
  have J : Hid (s ++ ByteArray.mk #[lettr ((κ + 2) % 4)] = ⟨(L ++ [lettr ((κ + 2) % 4)]).toArray⟩) := by rw [Hid, ← hs]; exact bytes_app L [lettr ((κ + 2) % 4)]
  have PN := Lib.hid (fun V => packStepsI_any ⟨(L ++ [lettr ((κ + 2) % 4)]).toArray⟩ V)
  have E3 := pk_no (s := ⟨(L ++ [lettr ((κ + 2) % 4)]).toArray⟩) p5
  rw [E3.1, E3.2] at PN
  generalize ByteArray.mk (L ++ [lettr ((κ + 2) % 4)]).toArray = sb at J PN
  have BT : Hid (∀ k, bTo L k ≤ 2 * k + 2) := fun k => by
    induction k with
    | zero => exact Nat.le_refl _
    | succ k ih =>
      rw [bTo]
      split
      · omega
      · split <;> omega
  have BS : Hid (∀ k, k ≠ 0 → bTo L (k + 1) = bTo L k + if L.getD k 0 = L.getD (k - 1) 0 then 1 else 2) := fun k hk => by rw [bTo, if_neg hk]
  have B1 : Hid (bTo L 1 = 2) := rfl
  have BE : Hid (bTo L s.size = pk.size) := by rw [Hid, sz, pz]; exact p4
  have hlast : Hid (∀ h : s.size - 1 < s.size, s[s.size - 1]'h = lettr κ) := fun h => by rw [AT.out _ h, ← LAST]; congr 1; omega
  have z24 : s.size ≤ 24 := by omega
  have HS := Lib.hid hs
  rw [HS.out]
  clear hs hpk sL pq sz pz p1 p2 p3 p4 p5 E1 E2 E3 F ho hlen hq LAST hL hW
  go_wp2_with fail
  refine (PS.out _).mono ?_
  rintro e w2 ⟨rfl, hb2⟩
  go_wp2_with fail
  refine (US.out _).mono ?_
  rintro e w3 ⟨rfl, hb3⟩
  have H3 := Ext.then_ (Ext.then_ hb1 hb2) hb3
  clear hb1 hb2 hb3
  go_wp2_with fail
  go_loopw [10, 11] (fun bv iv wr => ∃ i : Nat, 1 ≤ i ∧ i ≤ s.size ∧ iv = .int .i64 i ∧ bv = .int .i64 ((bTo L i : Nat) : Int) ∧ Below w3.heap.size w3 wr) (fun _ iv _ => s.size - (intOf iv).toNat)
  case atStart => exact ⟨1, Nat.le_refl _, hz1, rfl, by rw [B1.out]; rfl, Ext.refl _⟩
  case round =>
    obtain ⟨t, ht1, ht, rfl, rfl, hb⟩ := hrel
    by_cases hlt : t < s.size
    · obtain ⟨j, hj⟩ : ∃ j, j + 1 = t := ⟨t - 1, by omega⟩
      have hjl : j < s.size := by omega
      have bd := BT.out t
      have bs := BS.out t (by omega)
      rw [← AT.out t hlt, show t - 1 = j from by omega, ← AT.out j hjl] at bs
      have HBS := Lib.hid bs
      have i0 : (0 : Int) ≤ (t : Int) := by omega
      have i1 : (t : Int) < (s.size : Int) := by omega
      have i2 : (0 : Int) ≤ (j : Int) := by omega
      have i3 : (j : Int) < (s.size : Int) := by omega
      have e1 : IntKind.i64.wrap ((t : Int) - 1) = (j : Int) := by rw [IntWalk.i64_in _ (by omega)]; omega
      clear bs
      by_cases hne : s[t] = s[j]
      · have q : (((s[t].toNat : Nat) : Int) != ((s[j].toNat : Nat) : Int)) = false := by rw [hne]; simp
        have R : Hid (bTo L (t + 1) = bTo L t + 1) := by rw [Hid, HBS.out, if_pos hne]
        generalize bTo L t = bt at *
        clear hne HBS
        go_wp2_with fail
        refine wp_region_held_quiet (fun U => Below wr.heap.size wr U) (by kernel_rfl) (by kernel_rfl) (Ext.refl _).drew ?_
        have ne : Nonempty (HeldW (fun U => Below wr.heap.size wr U)) := ⟨⟨wr, Ext.refl _⟩⟩
        repeat (go_big_quiet_step (fail))
        refine wpQuiet_nil ?_
        intro w4 hw'
        obtain ⟨⟨_, hb4⟩, rfl⟩ := hw'
        clear ne 
        have HB := Ext.then_ hb hb4
        clear e1 q
        go_wp2_with fail
        go_roundw
        case rel => exact ⟨t + 1, by omega, by omega, by go_num, by rw [R.out]; go_num, HB⟩
        case measure => simp [intOf]; omega
      · have q : (((s[t].toNat : Nat) : Int) != ((s[j].toNat : Nat) : Int)) = true := by
          rw [bne_iff_ne]; intro e; exact hne (UInt8.toNat_inj.1 (by omega))
        have R : Hid (bTo L (t + 1) = bTo L t + 2) := by rw [Hid, HBS.out, if_neg hne]
        generalize bTo L t = bt at *
        clear hne HBS
        go_wp2_with fail
        refine wp_region_held_quiet (fun U => Below wr.heap.size wr U) (by kernel_rfl) (by kernel_rfl) (Ext.refl _).drew ?_
        have ne : Nonempty (HeldW (fun U => Below wr.heap.size wr U)) := ⟨⟨wr, Ext.refl _⟩⟩
        repeat (go_big_quiet_step (fail))
        refine wpQuiet_nil ?_
        intro w4 hw'
        obtain ⟨⟨_, hb4⟩, rfl⟩ := hw'
        clear ne 
        have HB := Ext.then_ hb hb4
        clear e1 q
        go_wp2_with fail
        go_roundw
        case rel => exact ⟨t + 1, by omega, by omega, by go_num, by rw [R.out]; go_num, HB⟩
        case measure => simp [intOf]; omega
    · obtain rfl : t = s.size := by omega
      obtain ⟨j, hj⟩ : ∃ j, s.size - 1 = j := ⟨_, rfl⟩
      have hjl : j < s.size := by omega
      have i2 : (0 : Int) ≤ (j : Int) := by omega
      have i3 : (j : Int) < (s.size : Int) := by omega
      have e1 : (s.size : Int) - 1 = (j : Int) := by omega
      have hv : ((s[j]'hjl).toNat : Int) = (((lettr κ).toNat : Nat) : Int) := by
        have := hlast.out (by omega)
        subst hj
        rw [this]
      have t3 : ¬ 9223372036854775807 < s.size + 1 := by omega
      have qe : (((bTo L s.size : Nat) : Int) == ((pk.size : Nat) : Int)) = true := by rw [BE.out]; simp
      have HB := Ext.then_ H3 hb
      clear hj
      go_wp2_with fail
      refine (BK.out _).mono ?_
      rintro e w' ⟨rfl, rfl⟩
      have JJ := J.out
      have PN1 := Lib.hid (PN.out wr)
      clear e1
      go_wp2_with fail
      try simp only [JJ]
      refine PN1.out.mono ?_
      rintro e w5 ⟨rfl, hb5⟩
      have HB2 := Ext.then_ HB hb5
      go_wp2_with fail
      go_ret
      exact ⟨rfl, HB2⟩
end Go.Proofs.YtogefmkplkddoaaDoor
