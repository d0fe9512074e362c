/- Steps read from their code: the program's and the reference's. -/
import Derived.Test.YtogefmkplkddoaaDoorUpsP
import Derived.Test.YtogefmkplkddoaaDoorStp
namespace Go.Proofs.YtogefmkplkddoaaDoor
open Go.RowKit

theorem str_of_cells {w : World} {g c : Nat} {l : List UInt8} (h : ∀ j (hj : j < l.length), w.cell? ⟨g, j, none⟩ = some (.int .u8 ((l[j].toNat : Nat) : Int))) :
    (convert 30 9 (.slice (some ⟨g, 0, none⟩) l.length c)).run Tryd.prog w = .ok (.string ⟨l.toArray⟩) w := by
  refine run_convert_bytes_back w _ _ 5 _ _ l Tryd.underlying30 Tryd.underlying5 Tryd.underlying9 (fun j hj => ?_)
  rw [Addr.add_lit, Nat.zero_add]
  exact h j hj
theorem own_cells {w : World} {base g n cap : Nat} {l : List UInt8} (h : w.ownsRow base 5 1 (.slice (some ⟨g, 0, none⟩) n cap) n (u8s l)) (hn : l.length = n) : ∀ j (hj : j < l.length), w.cell? ⟨g, j, none⟩ = some (.int .u8 ((l[j].toNat : Nat) : Int)) := fun j hj => by
  subst hn
  rw [h.cellAt j (by omega)]
  simp [u8s, hj]
set_option maxHeartbeats 400000 in
theorem clip_any (g n c : Nat) (w : World) (hc : n ≤ c) : Calls Tryd.prog 41 #[.slice (some ⟨g, 0, none⟩) n c] w fun e w' => e = .returned (.slice (some ⟨g, 0, none⟩) n n) ∧ w = w' := by
  have h1 : (n : Int) ≤ (c : Int) := by omega
  have h0 : (0 : Int) ≤ (n : Int) := by omega
  go_enter Tryd.func41, Tryd.ntmps41
  go_wp2_with fail
  go_ret
  exact ⟨rfl, rfl⟩
theorem ltr_at {κ : Nat} (h : κ < 4) : ∀ hz : κ < (ByteArray.mk #[114, 100, 108, 117]).size, (((ByteArray.mk #[114, 100, 108, 117])[κ]'hz).toNat : Int) = (((lettr κ).toNat : Nat) : Int) := by
  have : κ = 0 ∨ κ = 1 ∨ κ = 2 ∨ κ = 3 := by omega
  rcases this with rfl | rfl | rfl | rfl <;> intro _ <;> rfl
/-- The bits, one by one. -/
theorem bit_at {s : ByteArray} (h : bitL s.data.toList) (k : Nat) (hk : k < s.size) : s[k] = 48 ∨ s[k] = 49 := by
  have := h (s[k]'hk) (by rw [← byte_at s k hk, List.getD_eq_getElem?_getD, List.getElem?_eq_getElem (by simpa using hk)]; exact List.getElem_mem _)
  exact this
theorem drop_at (s : ByteArray) (k : Nat) (hk : k < s.size) : s.data.toList.drop k = s[k] :: s.data.toList.drop (k + 1) := by
  rw [List.drop_eq_getElem_cons (by simpa using hk)]; rfl
theorem bits_iff {l : List UInt8} : (l.all (fun b => b == 48 || b == 49)) = true ↔ bitL l := by
  rw [List.all_eq_true]; unfold bitL
  constructor
  · intro h b hb; simpa using h b hb
  · intro h b hb; simpa using h b hb
theorem up_no {s : ByteArray} (h : upOk s.data.toList = false) : upV s = ⟨#[]⟩ ∧ upB s = false := by simp [upV, upB, h]
theorem ret_up {s : ByteArray} {x : ByteArray} {b : Bool} (h : upV s = x ∧ upB s = b) : Ending.returned (.tuple #[.string x, .bool b]) = .returned (.tuple #[.string (upV s), .bool (upB s)]) := by rw [h.1, h.2]
/-- What the code of what was read is. -/
theorem pk_dec {l : List UInt8} (h2 : 2 ≤ l.length) (hb : bitL l) : pkR (decA l).1 = if (decA l).1.length ≤ 600 then some (l ++ if (decA l).2 then [] else [49]) else none := by
  obtain ⟨o, κ, a1, a2, a3, a4⟩ := (decA_facts h2 hb).2.pk
  have hl : 1 ≤ (decA l).1.length := by
    show 1 ≤ (decA l).1.length
    have : (decA l).1 = o ++ [lettr κ] := a1
    rw [this]; simp
  by_cases h : (decA l).1.length ≤ 600
  · rw [if_pos h, pkR, if_pos, a4]
    · simp
    · rw [stpOk, Bool.and_eq_true, List.all_eq_true]
      exact ⟨inB_true (by omega) (by omega), fun b hb => by simpa using a3 b hb⟩
  · rw [if_neg h, pkR, if_neg]
    rw [stpOk, Bool.and_eq_true]
    intro hh
    have := (inB_iff.1 hh.1).2
    omega

set_option maxRecDepth 100000 in
set_option maxHeartbeats 2000000 in
theorem unpackSteps_any (s : ByteArray) (w : World) : Calls Tryd.prog 17 #[.string s] w fun e w' => e = .returned (.tuple #[.string (upV s), .bool (upB s)]) ∧ Below w.heap.size w w' := by
  have hlen : s.data.toList.length = s.size := rfl
  cases h1 : inB (s.size : Int) 2 2000
  · have F := Lib.hid (up_no (s := s) (by rw [upOk, hlen, h1]; rfl))
    have h2 := inB_not.1 h1
    by_cases h3 : (s.size : Int) < 2
    · clear h2 h1 hlen
      go_enter Tryd.func17, Tryd.ntmps17
      go_wp2_with fail
      go_ret2
      exact ⟨ret_up F.out, Ext.refl _⟩
    · have h4 : (2000 : Int) < (s.size : Int) := by omega
      clear h2 h1 hlen
      go_enter Tryd.func17, Tryd.ntmps17
      go_wp2_with fail
      go_ret2
      exact ⟨ret_up F.out, Ext.refl _⟩
  obtain ⟨n0, n1⟩ := inB_iff.1 h1
  have t1 : ¬ (s.size : Int) < 2 := by omega
  have t2 : ¬ (2000 : Int) < (s.size : Int) := by omega
  have TR := Lib.hid (fun V => trim_any s [48, 49] V (by omega) (by decide) (by decide))
  have TL : Hid (Lib.trimS s.data.toList [48, 49] = [] ↔ bitL s.data.toList) := by
    rw [Hid, trimS_nil]
    unfold bitL
    exact ⟨fun h b hb => by simpa using h b hb, fun h b hb => by simpa using h b hb⟩
  generalize Lib.trimS s.data.toList [48, 49] = tb at *
  have TE : (ByteArray.mk tb.toArray).toList.isEmpty = tb.isEmpty := by rw [ByteArray.toList_eq]
  generalize ByteArray.mk tb.toArray = ts at TR TE
  by_cases hbit : bitL s.data.toList
  case neg =>
    have F := Lib.hid (up_no (s := s) (by
      have : s.data.toList.all (fun b => b == 48 || b == 49) = false := by
        rw [← Bool.not_eq_true]; exact fun h => hbit (bits_iff.1 h)
      rw [upOk, this]; simp))
    have htb : tb ≠ [] := fun e => hbit (TL.out.1 e)
    have NE : ts.toList.isEmpty = false := by rw [TE]; cases tb with | nil => exact absurd rfl htb | cons => rfl
    clear hbit htb TL h1 TE hlen
    go_enter Tryd.func17, Tryd.ntmps17
    go_wp2_with fail
    refine (TR.out _).mono ?_
    rintro e w' ⟨rfl, hb⟩
    go_wp2_with fail
    go_ret2
    exact ⟨ret_up F.out, hb⟩
  have htb : tb = [] := TL.out.2 hbit
  rw [htb] at TE
  have NE : ts.toList.isEmpty = true := TE
  have s2 : 2 ≤ s.size := by omega
  have BA := Lib.hid (fun k hk => bit_at hbit k hk)
  have DR := Lib.hid (fun k hk => drop_at s k hk)
  have PD := Lib.hid (pk_dec (l := s.data.toList) (by rw [hlen]; exact s2) hbit)
  have UO : Hid (upOk s.data.toList = ((decA s.data.toList).2 && decide ((decA s.data.toList).1.length ≤ 600))) := by
    rw [Hid, upOk, hlen, h1, bits_iff.2 hbit]; rfl
  obtain ⟨κ, hκ⟩ : ∃ κ, fst2 s.data.toList = κ := ⟨_, rfl⟩
  have hk4 : κ < 4 := by rw [← hκ]; exact (decA_facts (l := s.data.toList) (by rw [hlen]; exact s2) hbit).1
  have DA : Hid (decA s.data.toList = dec (s.data.toList.drop 2) κ [lettr κ]) := by rw [Hid, decA, hκ]
  have KB : κ = (s[0]'(by omega)).toNat * 2 + (s[1]'(by omega)).toNat - 144 := by
    have a := byte_at s 0 (by omega)
    have b := byte_at s 1 (by omega)
    rw [← hκ, ← a, ← b]; rfl
  have g0 : ((s[0]'(by omega)).toNat : Int) = 48 ∨ ((s[0]'(by omega)).toNat : Int) = 49 := by
    rcases BA.out 0 (by omega) with h | h <;> rw [h] <;> decide
  have g1 : ((s[1]'(by omega)).toNat : Int) = 48 ∨ ((s[1]'(by omega)).toNat : Int) = 49 := by
    rcases BA.out 1 (by omega) with h | h <;> rw [h] <;> decide
  have i0 : (0 : Int) < (s.size : Int) := by omega
  have i1 : (1 : Int) < (s.size : Int) := by omega
  obtain ⟨x0, hx0⟩ : ∃ x0 : Nat, ((s[0]'(by omega)).toNat : Int) = 48 + x0 := by
    rcases g0 with h | h
    · exact ⟨0, by omega⟩
    · exact ⟨1, by omega⟩
  obtain ⟨x1, hx1⟩ : ∃ x1 : Nat, ((s[1]'(by omega)).toNat : Int) = 48 + x1 := by
    rcases g1 with h | h
    · exact ⟨0, by omega⟩
    · exact ⟨1, by omega⟩
  have e0 : IntKind.u8.wrap ((48 + (x0 : Int)) - 48) = (x0 : Int) := by
    rw [show (48 + (x0 : Int)) - 48 = x0 from by omega]
    have : x0 = 0 ∨ x0 = 1 := by omega
    rcases this with rfl | rfl <;> rfl
  have e1 : IntKind.u8.wrap ((48 + (x1 : Int)) - 48) = (x1 : Int) := by
    rw [show (48 + (x1 : Int)) - 48 = x1 from by omega]
    have : x1 = 0 ∨ x1 = 1 := by omega
    rcases this with rfl | rfl <;> rfl
  have e2 : IntKind.i64.wrap (x0 : Int) = (x0 : Int) := IntWalk.i64_in _ (by omega)
  have e3 : IntKind.i64.wrap (x1 : Int) = (x1 : Int) := IntWalk.i64_in _ (by omega)
  have e4 : IntKind.i64.wrap ((x0 : Int) * 2) = (x0 : Int) * 2 := IntWalk.i64_in _ (by omega)
  have e5 : IntKind.i64.wrap ((x0 : Int) * 2 + (x1 : Int)) = (κ : Int) := by rw [IntWalk.i64_in _ (by omega)]; omega
  clear g0 g1 hbit htb TL h1 TE hlen hκ KB
  go_enter Tryd.func17, Tryd.ntmps17
  go_wp2_with fail
  refine (TR.out _).mono ?_
  rintro e w1 ⟨rfl, hb1⟩
  go_wp2_with fail
  refine wp_region_held_quiet (fun U => Below w1.heap.size w1 U) (by kernel_rfl) (by kernel_rfl) (Ext.refl _).drew ?_
  have ne : Nonempty (HeldW (fun U => Below w1.heap.size w1 U)) := ⟨⟨w1, Ext.refl _⟩⟩
  repeat (go_big_quiet_step (fail))
  refine wpQuiet_nil ?_
  intro w2 hw'
  obtain ⟨⟨_, hb2⟩, rfl⟩ := hw'
  clear ne 
  have B2 := Ext.then_ hb1 hb2
  clear hb1 hb2 e0 e1 e2 e3 e4 e5 hx0 hx1

  have j0 : (0 : Int) ≤ (κ : Int) := by omega
  have j1 : (κ : Int) < 4 := by omega
  have lt := ltr_at hk4
  obtain ⟨w3, hw3⟩ : ∃ w3, w2.alloc (.cells #[.int .u8 (((lettr κ).toNat : Nat) : Int)] 5) = w3 := ⟨_, rfl⟩
  have O3 : w3.ownsRow w2.heap.size 5 1 (.slice (some ⟨w2.heap.size, 0, none⟩) 1 1) 1 (u8s [lettr κ]) := by rw [← hw3]; exact World.ownsRow_lit (e := 5) (size := 1) w2 #[.int .u8 (((lettr κ).toNat : Nat) : Int)] 1 (Nat.le_refl _) (by decide) rfl
  have B3 : Below w.heap.size w w3 := Ext.then_ B2 (by rw [← hw3]; exact Ext.more (Ext.refl _) _)
  have HW3 := Lib.hid hw3
  have HO3 := Lib.hid O3
  have hz := B2.size
  clear hw3 O3 B2
  go_wp2_with fail
  try simp only [HW3.out]
  clear lt j0 j1
  go_loopw [4, 5, 6] (fun kv v pv wr => ∃ (p κ g c : Nat) (o : List UInt8), 2 ≤ p ∧ p ≤ s.size ∧ κ < 4 ∧ kv = .int .i64 κ ∧ pv = .int .i64 p ∧ v = .slice (some ⟨g, 0, none⟩) o.length c ∧ Hid (decA s.data.toList = dec (s.data.toList.drop p) κ o) ∧ o.length ≤ p ∧ wr.ownsRow w2.heap.size 5 1 (.slice (some ⟨g, 0, none⟩) o.length c) o.length (u8s o) ∧ Below w.heap.size w wr) (fun _ _ pv _ => s.size - (intOf pv).toNat)
  case atStart => exact ⟨2, κ, _, _, [lettr κ], Nat.le_refl _, s2, hk4, rfl, rfl, rfl, DA, by simp, HO3.out, B3⟩
  case round =>
    obtain ⟨p, κ2, g, c, o, hp2, hp, hk2, rfl, rfl, rfl, hD, hol, hown, hb⟩ := hrel
    clear B3
    have gl := hown.lt g rfl
    by_cases hlt : p < s.size
    · have p0 : (0 : Int) ≤ (p : Int) := by omega
      have p1 : (p : Int) < (s.size : Int) := by omega
      have DP := DR.out p hlt
      rcases BA.out p hlt with h48 | h49
      · have hv : ((s[p].toNat : Nat) : Int) = 48 := by rw [h48]; rfl
        have D2 : Hid (decA s.data.toList = dec (s.data.toList.drop (p + 1)) κ2 (o ++ [lettr κ2])) := by rw [Hid, hD.out, DP, h48, dec_zero]
        have lt := ltr_at hk2
        have j0 : (0 : Int) ≤ (κ2 : Int) := by omega
        have j1 : (κ2 : Int) < 4 := by omega
        clear DP h48 hD

        have HOO := Lib.hid (own_ext (Ext.refl wr) hown)
        clear hown
        go_wp2_with (at_builtin; refine wpList_appB byteT (by rfl) _ _ (by rfl) w2.heap.size (.slice (some ⟨g, 0, none⟩) o.length c) o.length (u8s o) (by rfl) (HOO.out.alloc _) wr.heap.size 1 1 [.int .u8 (((lettr κ2).toNat : Nat) : Int)] (by rfl) rfl (World.news_of_block (heap_alloc_new _ _)) (by simp [Value.oneCell']) (by omega) (by simp; omega) (by intro h; cases h) ?_; intro g5 c5 w5 own5 hg5)
        have B5 : Below w.heap.size w w5 := (Ext.more hb _).grown hg5 (by simp; omega) (fun z hz => by simp [Value.ownBlock] at hz; omega)
        have HO := Lib.hid (own_u8 own5 (Nat.le_refl _) (ys := u8s (o ++ [lettr κ2])) (m := (o ++ [lettr κ2]).length) (by rw [u8s_app]; rfl) (by simp))
        have HL : Hid ((o ++ [lettr κ2]).length = o.length + 1) := by simp [Hid]
        clear own5 hg5
        go_wp2_with fail
        go_roundw
        case rel => exact ⟨p + 1, κ2, g5, c5, o ++ [lettr κ2], by omega, by omega, by omega, by go_num, by go_num, by rw [HL.out], D2, by rw [HL.out]; omega, HO.out, B5⟩
        case measure => simp [intOf]; omega
      · have hv : ((s[p].toNat : Nat) : Int) = 49 := by rw [h49]; rfl
        by_cases hcut : p + 1 = s.size
        · have F := Lib.hid (up_no (s := s) (by
            have e1 : s.data.toList.drop (p + 1) = [] := List.drop_eq_nil_of_le (by show s.size ≤ p + 1; omega)
            rw [UO.out, hD.out, DP, h49, e1, dec_cut]; rfl))
          have q : (((p : Int) + 1) == (s.size : Int)) = true := by simp; omega
          clear DP h49 hD hown
          go_wp2_with fail
          go_ret2
          exact ⟨ret_up F.out, hb⟩
        · have hp1 : p + 1 < s.size := by omega
          have DP1 := DR.out (p + 1) hp1
          have q : (((p : Int) + 1) == (s.size : Int)) = false := by simp; omega
          obtain ⟨p', hp'⟩ : ∃ p', p + 1 = p' := ⟨_, rfl⟩
          have ep : (p : Int) + 1 = (p' : Int) := by omega
          rw [ep] at q
          have p2 : (0 : Int) ≤ (p' : Int) := by omega
          have p3 : (p' : Int) < (s.size : Int) := by omega
          have hv2 : ((s[p']'(by omega)).toNat : Int) = 48 ∨ ((s[p']'(by omega)).toNat : Int) = 49 := by
            rcases BA.out p' (by omega) with h | h <;> rw [h] <;> decide
          have D2 : Hid (((s[p']'(by omega)).toNat : Int) = 48 → decA s.data.toList = dec (s.data.toList.drop (p' + 1)) ((κ2 + 1) % 4) (o ++ [lettr ((κ2 + 1) % 4)])) := fun h => by
            subst hp'
            have hc : s[p + 1] = 48 := UInt8.toNat_inj.1 (by rw [show (48 : UInt8).toNat = 48 from rfl]; omega)
            rw [hD.out, DP, h49, DP1, hc, dec_one, if_pos rfl]
          have D3 : Hid (((s[p']'(by omega)).toNat : Int) = 49 → decA s.data.toList = dec (s.data.toList.drop (p' + 1)) ((κ2 + 3) % 4) (o ++ [lettr ((κ2 + 3) % 4)])) := fun h => by
            subst hp'
            have hc : s[p + 1] = 49 := UInt8.toNat_inj.1 (by rw [show (49 : UInt8).toNat = 49 from rfl]; omega)
            rw [hD.out, DP, h49, DP1, hc, dec_one, if_neg (by decide)]
          have hk3 : κ2 = 0 ∨ κ2 = 1 ∨ κ2 = 2 ∨ κ2 = 3 := by omega
          clear DP h49 hD DP1 hcut
          rcases hv2 with hv2 | hv2
          · have E := Lib.hid (D2.out hv2)
            clear D2 D3
            rcases hk3 with rfl | rfl | rfl | rfl
            · have lt := ltr_at (show 1 < 4 by decide)
              have E2 : Hid (decA s.data.toList = dec (s.data.toList.drop (p' + 1)) 1 (o ++ [lettr 1])) := E.out
              have HOO := Lib.hid (own_ext (Ext.refl wr) hown)
              clear hown
              go_wp2_with (at_builtin; refine wpList_appB byteT (by rfl) _ _ (by rfl) w2.heap.size (.slice (some ⟨g, 0, none⟩) o.length c) o.length (u8s o) (by rfl) (HOO.out.alloc _) wr.heap.size 1 1 [.int .u8 (((lettr 1).toNat : Nat) : Int)] (by rfl) rfl (World.news_of_block (heap_alloc_new _ _)) (by simp [Value.oneCell']) (by omega) (by simp; omega) (by intro h; cases h) ?_; intro g5 c5 w5 own5 hg5)
              have B5 : Below w.heap.size w w5 := (Ext.more hb _).grown hg5 (by simp; omega) (fun z hz => by simp [Value.ownBlock] at hz; omega)
              have HO := Lib.hid (own_u8 own5 (Nat.le_refl _) (ys := u8s (o ++ [lettr 1])) (m := (o ++ [lettr 1]).length) (by rw [u8s_app]; rfl) (by simp))
              have HL : Hid ((o ++ [lettr 1]).length = o.length + 1) := by simp [Hid]
              clear own5 hg5
              go_wp2_with fail
              go_roundw
              case rel => exact ⟨p' + 1, 1, g5, c5, o ++ [lettr 1], by omega, by omega, by omega, by go_num, by go_num, by rw [HL.out], E2, by rw [HL.out]; omega, HO.out, B5⟩
              case measure => simp [intOf]; omega
            · have lt := ltr_at (show 2 < 4 by decide)
              have E2 : Hid (decA s.data.toList = dec (s.data.toList.drop (p' + 1)) 2 (o ++ [lettr 2])) := E.out
              have HOO := Lib.hid (own_ext (Ext.refl wr) hown)
              clear hown
              go_wp2_with (at_builtin; refine wpList_appB byteT (by rfl) _ _ (by rfl) w2.heap.size (.slice (some ⟨g, 0, none⟩) o.length c) o.length (u8s o) (by rfl) (HOO.out.alloc _) wr.heap.size 1 1 [.int .u8 (((lettr 2).toNat : Nat) : Int)] (by rfl) rfl (World.news_of_block (heap_alloc_new _ _)) (by simp [Value.oneCell']) (by omega) (by simp; omega) (by intro h; cases h) ?_; intro g5 c5 w5 own5 hg5)
              have B5 : Below w.heap.size w w5 := (Ext.more hb _).grown hg5 (by simp; omega) (fun z hz => by simp [Value.ownBlock] at hz; omega)
              have HO := Lib.hid (own_u8 own5 (Nat.le_refl _) (ys := u8s (o ++ [lettr 2])) (m := (o ++ [lettr 2]).length) (by rw [u8s_app]; rfl) (by simp))
              have HL : Hid ((o ++ [lettr 2]).length = o.length + 1) := by simp [Hid]
              clear own5 hg5
              go_wp2_with fail
              go_roundw
              case rel => exact ⟨p' + 1, 2, g5, c5, o ++ [lettr 2], by omega, by omega, by omega, by go_num, by go_num, by rw [HL.out], E2, by rw [HL.out]; omega, HO.out, B5⟩
              case measure => simp [intOf]; omega
            · have lt := ltr_at (show 3 < 4 by decide)
              have E2 : Hid (decA s.data.toList = dec (s.data.toList.drop (p' + 1)) 3 (o ++ [lettr 3])) := E.out
              have HOO := Lib.hid (own_ext (Ext.refl wr) hown)
              clear hown
              go_wp2_with (at_builtin; refine wpList_appB byteT (by rfl) _ _ (by rfl) w2.heap.size (.slice (some ⟨g, 0, none⟩) o.length c) o.length (u8s o) (by rfl) (HOO.out.alloc _) wr.heap.size 1 1 [.int .u8 (((lettr 3).toNat : Nat) : Int)] (by rfl) rfl (World.news_of_block (heap_alloc_new _ _)) (by simp [Value.oneCell']) (by omega) (by simp; omega) (by intro h; cases h) ?_; intro g5 c5 w5 own5 hg5)
              have B5 : Below w.heap.size w w5 := (Ext.more hb _).grown hg5 (by simp; omega) (fun z hz => by simp [Value.ownBlock] at hz; omega)
              have HO := Lib.hid (own_u8 own5 (Nat.le_refl _) (ys := u8s (o ++ [lettr 3])) (m := (o ++ [lettr 3]).length) (by rw [u8s_app]; rfl) (by simp))
              have HL : Hid ((o ++ [lettr 3]).length = o.length + 1) := by simp [Hid]
              clear own5 hg5
              go_wp2_with fail
              go_roundw
              case rel => exact ⟨p' + 1, 3, g5, c5, o ++ [lettr 3], by omega, by omega, by omega, by go_num, by go_num, by rw [HL.out], E2, by rw [HL.out]; omega, HO.out, B5⟩
              case measure => simp [intOf]; omega
            · have lt := ltr_at (show 0 < 4 by decide)
              have E2 : Hid (decA s.data.toList = dec (s.data.toList.drop (p' + 1)) 0 (o ++ [lettr 0])) := E.out
              have HOO := Lib.hid (own_ext (Ext.refl wr) hown)
              clear hown
              go_wp2_with (at_builtin; refine wpList_appB byteT (by rfl) _ _ (by rfl) w2.heap.size (.slice (some ⟨g, 0, none⟩) o.length c) o.length (u8s o) (by rfl) (HOO.out.alloc _) wr.heap.size 1 1 [.int .u8 (((lettr 0).toNat : Nat) : Int)] (by rfl) rfl (World.news_of_block (heap_alloc_new _ _)) (by simp [Value.oneCell']) (by omega) (by simp; omega) (by intro h; cases h) ?_; intro g5 c5 w5 own5 hg5)
              have B5 : Below w.heap.size w w5 := (Ext.more hb _).grown hg5 (by simp; omega) (fun z hz => by simp [Value.ownBlock] at hz; omega)
              have HO := Lib.hid (own_u8 own5 (Nat.le_refl _) (ys := u8s (o ++ [lettr 0])) (m := (o ++ [lettr 0]).length) (by rw [u8s_app]; rfl) (by simp))
              have HL : Hid ((o ++ [lettr 0]).length = o.length + 1) := by simp [Hid]
              clear own5 hg5
              go_wp2_with fail
              go_roundw
              case rel => exact ⟨p' + 1, 0, g5, c5, o ++ [lettr 0], by omega, by omega, by omega, by go_num, by go_num, by rw [HL.out], E2, by rw [HL.out]; omega, HO.out, B5⟩
              case measure => simp [intOf]; omega
          · have E := Lib.hid (D3.out hv2)
            clear D2 D3
            rcases hk3 with rfl | rfl | rfl | rfl
            · have lt := ltr_at (show 3 < 4 by decide)
              have E2 : Hid (decA s.data.toList = dec (s.data.toList.drop (p' + 1)) 3 (o ++ [lettr 3])) := E.out
              have HOO := Lib.hid (own_ext (Ext.refl wr) hown)
              clear hown
              go_wp2_with (at_builtin; refine wpList_appB byteT (by rfl) _ _ (by rfl) w2.heap.size (.slice (some ⟨g, 0, none⟩) o.length c) o.length (u8s o) (by rfl) (HOO.out.alloc _) wr.heap.size 1 1 [.int .u8 (((lettr 3).toNat : Nat) : Int)] (by rfl) rfl (World.news_of_block (heap_alloc_new _ _)) (by simp [Value.oneCell']) (by omega) (by simp; omega) (by intro h; cases h) ?_; intro g5 c5 w5 own5 hg5)
              have B5 : Below w.heap.size w w5 := (Ext.more hb _).grown hg5 (by simp; omega) (fun z hz => by simp [Value.ownBlock] at hz; omega)
              have HO := Lib.hid (own_u8 own5 (Nat.le_refl _) (ys := u8s (o ++ [lettr 3])) (m := (o ++ [lettr 3]).length) (by rw [u8s_app]; rfl) (by simp))
              have HL : Hid ((o ++ [lettr 3]).length = o.length + 1) := by simp [Hid]
              clear own5 hg5
              go_wp2_with fail
              go_roundw
              case rel => exact ⟨p' + 1, 3, g5, c5, o ++ [lettr 3], by omega, by omega, by omega, by go_num, by go_num, by rw [HL.out], E2, by rw [HL.out]; omega, HO.out, B5⟩
              case measure => simp [intOf]; omega
            · have lt := ltr_at (show 0 < 4 by decide)
              have E2 : Hid (decA s.data.toList = dec (s.data.toList.drop (p' + 1)) 0 (o ++ [lettr 0])) := E.out
              have HOO := Lib.hid (own_ext (Ext.refl wr) hown)
              clear hown
              go_wp2_with (at_builtin; refine wpList_appB byteT (by rfl) _ _ (by rfl) w2.heap.size (.slice (some ⟨g, 0, none⟩) o.length c) o.length (u8s o) (by rfl) (HOO.out.alloc _) wr.heap.size 1 1 [.int .u8 (((lettr 0).toNat : Nat) : Int)] (by rfl) rfl (World.news_of_block (heap_alloc_new _ _)) (by simp [Value.oneCell']) (by omega) (by simp; omega) (by intro h; cases h) ?_; intro g5 c5 w5 own5 hg5)
              have B5 : Below w.heap.size w w5 := (Ext.more hb _).grown hg5 (by simp; omega) (fun z hz => by simp [Value.ownBlock] at hz; omega)
              have HO := Lib.hid (own_u8 own5 (Nat.le_refl _) (ys := u8s (o ++ [lettr 0])) (m := (o ++ [lettr 0]).length) (by rw [u8s_app]; rfl) (by simp))
              have HL : Hid ((o ++ [lettr 0]).length = o.length + 1) := by simp [Hid]
              clear own5 hg5
              go_wp2_with fail
              go_roundw
              case rel => exact ⟨p' + 1, 0, g5, c5, o ++ [lettr 0], by omega, by omega, by omega, by go_num, by go_num, by rw [HL.out], E2, by rw [HL.out]; omega, HO.out, B5⟩
              case measure => simp [intOf]; omega
            · have lt := ltr_at (show 1 < 4 by decide)
              have E2 : Hid (decA s.data.toList = dec (s.data.toList.drop (p' + 1)) 1 (o ++ [lettr 1])) := E.out
              have HOO := Lib.hid (own_ext (Ext.refl wr) hown)
              clear hown
              go_wp2_with (at_builtin; refine wpList_appB byteT (by rfl) _ _ (by rfl) w2.heap.size (.slice (some ⟨g, 0, none⟩) o.length c) o.length (u8s o) (by rfl) (HOO.out.alloc _) wr.heap.size 1 1 [.int .u8 (((lettr 1).toNat : Nat) : Int)] (by rfl) rfl (World.news_of_block (heap_alloc_new _ _)) (by simp [Value.oneCell']) (by omega) (by simp; omega) (by intro h; cases h) ?_; intro g5 c5 w5 own5 hg5)
              have B5 : Below w.heap.size w w5 := (Ext.more hb _).grown hg5 (by simp; omega) (fun z hz => by simp [Value.ownBlock] at hz; omega)
              have HO := Lib.hid (own_u8 own5 (Nat.le_refl _) (ys := u8s (o ++ [lettr 1])) (m := (o ++ [lettr 1]).length) (by rw [u8s_app]; rfl) (by simp))
              have HL : Hid ((o ++ [lettr 1]).length = o.length + 1) := by simp [Hid]
              clear own5 hg5
              go_wp2_with fail
              go_roundw
              case rel => exact ⟨p' + 1, 1, g5, c5, o ++ [lettr 1], by omega, by omega, by omega, by go_num, by go_num, by rw [HL.out], E2, by rw [HL.out]; omega, HO.out, B5⟩
              case measure => simp [intOf]; omega
            · have lt := ltr_at (show 2 < 4 by decide)
              have E2 : Hid (decA s.data.toList = dec (s.data.toList.drop (p' + 1)) 2 (o ++ [lettr 2])) := E.out
              have HOO := Lib.hid (own_ext (Ext.refl wr) hown)
              clear hown
              go_wp2_with (at_builtin; refine wpList_appB byteT (by rfl) _ _ (by rfl) w2.heap.size (.slice (some ⟨g, 0, none⟩) o.length c) o.length (u8s o) (by rfl) (HOO.out.alloc _) wr.heap.size 1 1 [.int .u8 (((lettr 2).toNat : Nat) : Int)] (by rfl) rfl (World.news_of_block (heap_alloc_new _ _)) (by simp [Value.oneCell']) (by omega) (by simp; omega) (by intro h; cases h) ?_; intro g5 c5 w5 own5 hg5)
              have B5 : Below w.heap.size w w5 := (Ext.more hb _).grown hg5 (by simp; omega) (fun z hz => by simp [Value.ownBlock] at hz; omega)
              have HO := Lib.hid (own_u8 own5 (Nat.le_refl _) (ys := u8s (o ++ [lettr 2])) (m := (o ++ [lettr 2]).length) (by rw [u8s_app]; rfl) (by simp))
              have HL : Hid ((o ++ [lettr 2]).length = o.length + 1) := by simp [Hid]
              clear own5 hg5
              go_wp2_with fail
              go_roundw
              case rel => exact ⟨p' + 1, 2, g5, c5, o ++ [lettr 2], by omega, by omega, by omega, by go_num, by go_num, by rw [HL.out], E2, by rw [HL.out]; omega, HO.out, B5⟩
              case measure => simp [intOf]; omega
    · obtain rfl : p = s.size := by omega
      have hD2 : Hid (decA s.data.toList = (o, true)) := by
        rw [Hid, hD.out, List.drop_eq_nil_of_le (by show s.size ≤ s.size; omega)]; rfl
      have CV := str_of_own hown rfl
      have PK := PD.out
      rw [hD2.out] at PK
      simp only [if_pos, List.append_nil] at PK
      have HC := Lib.hid (own_cells hown rfl)
      have cle : o.length ≤ c := by
        rcases hown.2 with ⟨h, _⟩ | ⟨_, _, _, h, _, _, h1, _⟩
        · cases h
        · simp only [Value.slice.injEq] at h; omega
      have hol2 : o.length ≤ 2000 := by omega
      by_cases h6 : o.length ≤ 600
      · rw [if_pos h6] at PK
        have PKS := Lib.hid (packSteps_any ⟨o.toArray⟩ wr)
        have PV : Hid (pkV ⟨o.toArray⟩ = s ∧ pkB ⟨o.toArray⟩ = true) := pk_yes (s := ⟨o.toArray⟩) (o := s.data.toList) PK
        rw [PV.out.1, PV.out.2] at PKS
        have F : Hid (upV s = ⟨o.toArray⟩ ∧ upB s = true) := by
          have : upOk s.data.toList = true := by rw [UO.out, hD2.out]; simp [h6]
          exact ⟨by rw [upV, if_pos this, hD2.out], this⟩
        clear PK hown
        go_wp2_with fail
        refine PKS.out.mono ?_
        rintro e w4 ⟨rfl, hb4⟩
        have CL := Lib.hid (clip_any g o.length c w4 cle)
        have CV2 := str_of_cells (w := w4) (g := g) (c := o.length) (l := o) (fun j hj => (hb4.cell (p := ⟨g, j, none⟩) gl.2).trans (HC.out j hj))
        have HB := Ext.then_ hb hb4
        go_wp2_with fail
        refine CL.out.mono ?_
        rintro e w' ⟨rfl, rfl⟩
        go_wp2_with fail
        go_ret2
        exact ⟨ret_up F.out, HB⟩
      · rw [if_neg h6] at PK
        have PKS := Lib.hid (packSteps_any ⟨o.toArray⟩ wr)
        have PV : Hid (pkV ⟨o.toArray⟩ = ⟨#[]⟩ ∧ pkB ⟨o.toArray⟩ = false) := pk_no (s := ⟨o.toArray⟩) PK
        rw [PV.out.1, PV.out.2] at PKS
        have F := Lib.hid (up_no (s := s) (by rw [UO.out, hD2.out]; simp [h6]))
        clear PK hown
        go_wp2_with fail
        refine PKS.out.mono ?_
        rintro e w4 ⟨rfl, hb4⟩
        have HB := Ext.then_ hb hb4
        go_wp2_with fail
        go_ret2
        exact ⟨ret_up F.out, HB⟩
theorem lit_str (b : UInt8) (V : World) : (convert 30 9 (.slice (some ⟨V.heap.size, 0, none⟩) 1 1)).run Tryd.prog (V.alloc (.cells #[.int .u8 ((b.toNat : Nat) : Int)] 5)) = .ok (.string ⟨#[b]⟩) (V.alloc (.cells #[.int .u8 ((b.toNat : Nat) : Int)] 5)) :=
  str_of_own (l := [b]) (base := V.heap.size) (World.ownsRow_lit (e := 5) (size := 1) V #[.int .u8 ((b.toNat : Nat) : Int)] 1 (Nat.le_refl _) (by decide) rfl) rfl
theorem byte_not {b : UInt8} (h : ¬ (b = 48 ∨ b = 49)) : (((b.toNat : Nat) : Int) == 48) = false ∧ (((b.toNat : Nat) : Int) == 49) = false := by
  constructor
  · rw [beq_eq_false_iff_ne]; intro e; exact h (.inl (UInt8.toNat_inj.1 (by rw [show (48 : UInt8).toNat = 48 from rfl]; omega)))
  · rw [beq_eq_false_iff_ne]; intro e; exact h (.inr (UInt8.toNat_inj.1 (by rw [show (49 : UInt8).toNat = 49 from rfl]; omega)))
set_option maxRecDepth 100000 in
set_option maxHeartbeats 2000000 in
theorem unpackStepsS_any (s : ByteArray) (w : World) : Calls Tryd.prog 16 #[.string s] w fun e w' => e = .returned (.tuple #[.string (upV s), .bool (upB s)]) ∧ Below w.heap.size w w' := by
  have hlen : s.data.toList.length = s.size := rfl
  cases h1 : inB (s.size : Int) 2 2000
  · have F := Lib.hid (up_no (s := s) (by rw [upOk, hlen, h1]; rfl))
    have h2 := inB_not.1 h1
    by_cases h3 : (s.size : Int) < 2
    · clear h2 h1 hlen
      go_enter Tryd.func16, Tryd.ntmps16
      go_wp2_with fail
      go_ret2
      exact ⟨ret_up F.out, Ext.refl _⟩
    · have h4 : (2000 : Int) < (s.size : Int) := by omega
      clear h2 h1 hlen
      go_enter Tryd.func16, Tryd.ntmps16
      go_wp2_with fail
      go_ret2
      exact ⟨ret_up F.out, Ext.refl _⟩
  obtain ⟨n0, n1⟩ := inB_iff.1 h1
  have t1 : ¬ (s.size : Int) < 2 := by omega
  have t2 : ¬ (2000 : Int) < (s.size : Int) := by omega
  have s2 : 2 ≤ s.size := by omega
  have H1 := Lib.hid h1
  have DR := Lib.hid (fun k hk => drop_at s k hk)
  have CVL := Lib.hid (fun b V => lit_str b V)
  have ALL : Hid ((∀ (k : Nat) (h : k < s.size), s[k]'h = 48 ∨ s[k]'h = 49) → bitL s.data.toList) := fun h b hb => by
    obtain ⟨k, hk, rfl⟩ := List.getElem_of_mem hb
    exact h k hk
  have BAD : Hid (∀ (k : Nat) (h : k < s.size), ¬ (s[k]'h = 48 ∨ s[k]'h = 49) → upOk s.data.toList = false) := fun k hk h => by
    have : s.data.toList.all (fun b => b == 48 || b == 49) = false := by
      rw [← Bool.not_eq_true]; exact fun hh => h (bit_at (bits_iff.1 hh) k hk)
    rw [upOk, this]; simp
  clear h1 hlen
  go_enter Tryd.func16, Tryd.ntmps16
  go_wp2_with fail
  go_loop [4] (fun v => ∃ k : Nat, k ≤ s.size ∧ v = .int .i64 k ∧ Hid (∀ (j : Nat) (h : j < s.size), j < k → s[j]'h = 48 ∨ s[j]'h = 49)) (fun v => s.size - (intOf v).toNat)
  case atStart => exact ⟨0, Nat.zero_le _, rfl, fun j h hj => absurd hj (Nat.not_lt_zero _)⟩
  case round =>
    obtain ⟨k, hk, rfl, hall⟩ := hrel
    by_cases hlt : k < s.size
    · have p0 : (0 : Int) ≤ (k : Int) := by omega
      have p1 : (k : Int) < (s.size : Int) := by omega
      by_cases hbit : s[k] = 48 ∨ s[k] = 49
      · have W2 : Hid (∀ (j : Nat) (h : j < s.size), j < k + 1 → s[j]'h = 48 ∨ s[j]'h = 49) := fun j h hj => by
          rcases Nat.lt_succ_iff_lt_or_eq.1 hj with h2 | h2
          · exact hall.out j h h2
          · subst h2; exact hbit
        rcases hbit with h | h
        · have hv : ((s[k].toNat : Nat) : Int) = 48 := by rw [h]; rfl
          clear h
          go_wp2_with fail
          go_round
          case rel => exact ⟨k + 1, by omega, by go_num, W2⟩
          case measure => simp [intOf]; omega
        · have hv : ((s[k].toNat : Nat) : Int) = 49 := by rw [h]; rfl
          clear h
          go_wp2_with fail
          go_round
          case rel => exact ⟨k + 1, by omega, by go_num, W2⟩
          case measure => simp [intOf]; omega
      · have F := Lib.hid (up_no (s := s) (BAD.out k hlt hbit))
        obtain ⟨q1, q2⟩ := byte_not hbit
        have q3 : (((s[k].toNat : Nat) : Int) != 48) = true := by rw [bne, q1]; rfl
        have q4 : (((s[k].toNat : Nat) : Int) != 49) = true := by rw [bne, q2]; rfl
        clear hbit
        go_wp2_with fail
        go_ret2
        exact ⟨ret_up F.out, Ext.refl _⟩
    · obtain rfl : k = s.size := by omega
      have hbit := ALL.out (fun j h => hall.out j h h)
      have BA := Lib.hid (fun k hk => bit_at hbit k hk)
      have PD := Lib.hid (pk_dec (l := s.data.toList) s2 hbit)
      have UO : Hid (upOk s.data.toList = ((decA s.data.toList).2 && decide ((decA s.data.toList).1.length ≤ 600))) := by
        have := H1.out
        rw [Hid, upOk, show inB (s.data.toList.length : Int) 2 2000 = true from this, bits_iff.2 hbit]; rfl
      obtain ⟨κ, hκ⟩ : ∃ κ, fst2 s.data.toList = κ := ⟨_, rfl⟩
      have hk4 : κ < 4 := by rw [← hκ]; exact (decA_facts (l := s.data.toList) s2 hbit).1
      have DA : Hid (decA s.data.toList = dec (s.data.toList.drop 2) κ [lettr κ]) := by rw [Hid, decA, hκ]
      have KB : κ = (s[0]'(by omega)).toNat * 2 + (s[1]'(by omega)).toNat - 144 := by
        have a := byte_at s 0 (by omega)
        have b := byte_at s 1 (by omega)
        rw [← hκ, ← a, ← b]; rfl
      have g0 : ((s[0]'(by omega)).toNat : Int) = 48 ∨ ((s[0]'(by omega)).toNat : Int) = 49 := by
        rcases BA.out 0 (by omega) with h | h <;> rw [h] <;> decide
      have g1 : ((s[1]'(by omega)).toNat : Int) = 48 ∨ ((s[1]'(by omega)).toNat : Int) = 49 := by
        rcases BA.out 1 (by omega) with h | h <;> rw [h] <;> decide
      have i0 : (0 : Int) < (s.size : Int) := by omega
      have i1 : (1 : Int) < (s.size : Int) := by omega
      obtain ⟨x0, hx0⟩ : ∃ x0 : Nat, ((s[0]'(by omega)).toNat : Int) = 48 + x0 := by
        rcases g0 with h | h
        · exact ⟨0, by omega⟩
        · exact ⟨1, by omega⟩
      obtain ⟨x1, hx1⟩ : ∃ x1 : Nat, ((s[1]'(by omega)).toNat : Int) = 48 + x1 := by
        rcases g1 with h | h
        · exact ⟨0, by omega⟩
        · exact ⟨1, by omega⟩
      have e0 : IntKind.u8.wrap ((48 + (x0 : Int)) - 48) = (x0 : Int) := by
        rw [show (48 + (x0 : Int)) - 48 = x0 from by omega]
        have : x0 = 0 ∨ x0 = 1 := by omega
        rcases this with rfl | rfl <;> rfl
      have e1 : IntKind.u8.wrap ((48 + (x1 : Int)) - 48) = (x1 : Int) := by
        rw [show (48 + (x1 : Int)) - 48 = x1 from by omega]
        have : x1 = 0 ∨ x1 = 1 := by omega
        rcases this with rfl | rfl <;> rfl
      have e2 : IntKind.i64.wrap (x0 : Int) = (x0 : Int) := IntWalk.i64_in _ (by omega)
      have e3 : IntKind.i64.wrap (x1 : Int) = (x1 : Int) := IntWalk.i64_in _ (by omega)
      have e4 : IntKind.i64.wrap ((x0 : Int) * 2) = (x0 : Int) * 2 := IntWalk.i64_in _ (by omega)
      have e5 : IntKind.i64.wrap ((x0 : Int) * 2 + (x1 : Int)) = (κ : Int) := by rw [IntWalk.i64_in _ (by omega)]; omega
      clear g0 g1 hκ KB hbit hall ALL BAD
      go_wp2_with fail
      refine wp_region_held_quiet (fun U => Below w.heap.size w U) (by kernel_rfl) (by kernel_rfl) (Ext.refl _).drew ?_
      have ne : Nonempty (HeldW (fun U => Below w.heap.size w U)) := ⟨⟨w, Ext.refl _⟩⟩
      repeat (go_big_quiet_step (fail))
      refine wpQuiet_nil ?_
      intro w2 hw'
      obtain ⟨⟨_, hb2⟩, rfl⟩ := hw'
      clear ne 
      clear e0 e1 e2 e3 e4 e5 hx0 hx1
      have j0 : (0 : Int) ≤ (κ : Int) := by omega
      have j1 : (κ : Int) < 4 := by omega
      have lt := ltr_at hk4
      have CV := CVL.out (lettr κ) w2
      have HB2 := Ext.more hb2 (.cells #[.int .u8 (((lettr κ).toNat : Nat) : Int)] 5)
      go_wp2_with fail
      clear lt j0 j1 CV
      go_loopw [5, 6, 7] (fun kv v pv wr => ∃ (p κ : Nat) (o : List UInt8), 2 ≤ p ∧ p ≤ s.size + 1 ∧ κ < 4 ∧ kv = .int .i64 κ ∧ pv = .int .i64 p ∧ v = .string ⟨o.toArray⟩ ∧ Hid ((p ≤ s.size ∧ decA s.data.toList = dec (s.data.toList.drop p) κ o) ∨ (p = s.size + 1 ∧ decA s.data.toList = (o, false))) ∧ o.length ≤ p ∧ Below w.heap.size w wr) (fun _ _ pv _ => s.size + 1 - (intOf pv).toNat)
      case atStart => exact ⟨2, κ, [lettr κ], Nat.le_refl _, by omega, hk4, rfl, rfl, rfl, .inl ⟨s2, DA⟩, by simp, HB2⟩
      case round =>
        obtain ⟨p, κ2, o, hp2, hp, hk2, rfl, rfl, rfl, hDD, hol, hb⟩ := hrel
        clear HB2 hb2
        by_cases hlt : p < s.size
        · have hD : Hid (decA s.data.toList = dec (s.data.toList.drop p) κ2 o) := by
            rcases hDD.out with ⟨_, h⟩ | ⟨h, _⟩
            · exact h
            · omega
          have p0 : (0 : Int) ≤ (p : Int) := by omega
          have p1 : (p : Int) < (s.size : Int) := by omega
          have DP := DR.out p hlt
          clear hDD
          rcases BA.out p hlt with h48 | h49
          · have hv : ((s[p].toNat : Nat) : Int) = 48 := by rw [h48]; rfl
            have D2 : Hid ((p + 1 ≤ s.size ∧ decA s.data.toList = dec (s.data.toList.drop (p + 1)) κ2 (o ++ [lettr κ2])) ∨ (p + 1 = s.size + 1 ∧ decA s.data.toList = (o ++ [lettr κ2], false))) := .inl ⟨by omega, by rw [hD.out, DP, h48, dec_zero]⟩
            have lt := ltr_at hk2
            have j0 : (0 : Int) ≤ (κ2 : Int) := by omega
            have j1 : (κ2 : Int) < 4 := by omega
            clear DP h48 hD
            have F : Hid (ByteArray.mk o.toArray ++ ByteArray.mk #[lettr κ2] = ⟨(o ++ [lettr κ2]).toArray⟩) := bytes_app o [lettr κ2]
            have CV := CVL.out (lettr κ2) wr
            have t3 : ¬ 9223372036854775807 < o.length + 1 := by omega
            have HL : Hid ((o ++ [lettr κ2]).length = o.length + 1) := by simp [Hid]
            skip
            go_wp2_with fail
            go_roundw
            case rel => exact ⟨p + 1, κ2, o ++ [lettr κ2], by omega, by omega, by omega, by go_num, by go_num, by rw [F.out], D2, by rw [HL.out]; omega, Ext.more hb _⟩
            case measure => simp [intOf]; omega
          · have hv : ((s[p].toNat : Nat) : Int) = 49 := by rw [h49]; rfl
            have hk3 : κ2 = 0 ∨ κ2 = 1 ∨ κ2 = 2 ∨ κ2 = 3 := by omega
            obtain ⟨p', hp'⟩ : ∃ p', p + 1 = p' := ⟨_, rfl⟩
            have ep : (p : Int) + 1 = (p' : Int) := by omega
            by_cases hcut : p + 1 = s.size
            · have D3 : Hid ((p' + 1 ≤ s.size ∧ decA s.data.toList = dec (s.data.toList.drop (p' + 1)) ((κ2 + 3) % 4) (o ++ [lettr ((κ2 + 3) % 4)])) ∨ (p' + 1 = s.size + 1 ∧ decA s.data.toList = (o ++ [lettr ((κ2 + 3) % 4)], false))) := .inr ⟨by omega, by
                have e1 : s.data.toList.drop (p + 1) = [] := List.drop_eq_nil_of_le (by show s.size ≤ p + 1; omega)
                rw [hD.out, DP, h49, e1, dec_cut]⟩
              have q : ¬ (p' : Int) < (s.size : Int) := by omega
              clear DP h49 hD
              rcases hk3 with rfl | rfl | rfl | rfl
              · have lt := ltr_at (show 3 < 4 by decide)
                have E2 : Hid ((p' + 1 ≤ s.size ∧ decA s.data.toList = dec (s.data.toList.drop (p' + 1)) 3 (o ++ [lettr 3])) ∨ (p' + 1 = s.size + 1 ∧ decA s.data.toList = (o ++ [lettr 3], false))) := D3.out
                have F : Hid (ByteArray.mk o.toArray ++ ByteArray.mk #[lettr 3] = ⟨(o ++ [lettr 3]).toArray⟩) := bytes_app o [lettr 3]
                have CV := CVL.out (lettr 3) wr
                have t3 : ¬ 9223372036854775807 < o.length + 1 := by omega
                have HL : Hid ((o ++ [lettr 3]).length = o.length + 1) := by simp [Hid]
                skip
                go_wp2_with fail
                go_roundw
                case rel => exact ⟨p' + 1, 3, o ++ [lettr 3], by omega, by omega, by omega, by go_num, by go_num, by rw [F.out], E2, by rw [HL.out]; omega, Ext.more hb _⟩
                case measure => simp [intOf]; omega
              · have lt := ltr_at (show 0 < 4 by decide)
                have E2 : Hid ((p' + 1 ≤ s.size ∧ decA s.data.toList = dec (s.data.toList.drop (p' + 1)) 0 (o ++ [lettr 0])) ∨ (p' + 1 = s.size + 1 ∧ decA s.data.toList = (o ++ [lettr 0], false))) := D3.out
                have F : Hid (ByteArray.mk o.toArray ++ ByteArray.mk #[lettr 0] = ⟨(o ++ [lettr 0]).toArray⟩) := bytes_app o [lettr 0]
                have CV := CVL.out (lettr 0) wr
                have t3 : ¬ 9223372036854775807 < o.length + 1 := by omega
                have HL : Hid ((o ++ [lettr 0]).length = o.length + 1) := by simp [Hid]
                skip
                go_wp2_with fail
                go_roundw
                case rel => exact ⟨p' + 1, 0, o ++ [lettr 0], by omega, by omega, by omega, by go_num, by go_num, by rw [F.out], E2, by rw [HL.out]; omega, Ext.more hb _⟩
                case measure => simp [intOf]; omega
              · have lt := ltr_at (show 1 < 4 by decide)
                have E2 : Hid ((p' + 1 ≤ s.size ∧ decA s.data.toList = dec (s.data.toList.drop (p' + 1)) 1 (o ++ [lettr 1])) ∨ (p' + 1 = s.size + 1 ∧ decA s.data.toList = (o ++ [lettr 1], false))) := D3.out
                have F : Hid (ByteArray.mk o.toArray ++ ByteArray.mk #[lettr 1] = ⟨(o ++ [lettr 1]).toArray⟩) := bytes_app o [lettr 1]
                have CV := CVL.out (lettr 1) wr
                have t3 : ¬ 9223372036854775807 < o.length + 1 := by omega
                have HL : Hid ((o ++ [lettr 1]).length = o.length + 1) := by simp [Hid]
                skip
                go_wp2_with fail
                go_roundw
                case rel => exact ⟨p' + 1, 1, o ++ [lettr 1], by omega, by omega, by omega, by go_num, by go_num, by rw [F.out], E2, by rw [HL.out]; omega, Ext.more hb _⟩
                case measure => simp [intOf]; omega
              · have lt := ltr_at (show 2 < 4 by decide)
                have E2 : Hid ((p' + 1 ≤ s.size ∧ decA s.data.toList = dec (s.data.toList.drop (p' + 1)) 2 (o ++ [lettr 2])) ∨ (p' + 1 = s.size + 1 ∧ decA s.data.toList = (o ++ [lettr 2], false))) := D3.out
                have F : Hid (ByteArray.mk o.toArray ++ ByteArray.mk #[lettr 2] = ⟨(o ++ [lettr 2]).toArray⟩) := bytes_app o [lettr 2]
                have CV := CVL.out (lettr 2) wr
                have t3 : ¬ 9223372036854775807 < o.length + 1 := by omega
                have HL : Hid ((o ++ [lettr 2]).length = o.length + 1) := by simp [Hid]
                skip
                go_wp2_with fail
                go_roundw
                case rel => exact ⟨p' + 1, 2, o ++ [lettr 2], by omega, by omega, by omega, by go_num, by go_num, by rw [F.out], E2, by rw [HL.out]; omega, Ext.more hb _⟩
                case measure => simp [intOf]; omega
            · have hp1 : p + 1 < s.size := by omega
              have DP1 := DR.out (p + 1) hp1
              have p2 : (0 : Int) ≤ (p' : Int) := by omega
              have p3 : (p' : Int) < (s.size : Int) := by omega
              have hv2 : ((s[p']'(by omega)).toNat : Int) = 48 ∨ ((s[p']'(by omega)).toNat : Int) = 49 := by
                rcases BA.out p' (by omega) with h | h <;> rw [h] <;> decide
              have D2 : Hid (((s[p']'(by omega)).toNat : Int) = 48 → decA s.data.toList = dec (s.data.toList.drop (p' + 1)) ((κ2 + 1) % 4) (o ++ [lettr ((κ2 + 1) % 4)])) := fun h => by
                subst hp'
                have hc : s[p + 1] = 48 := UInt8.toNat_inj.1 (by rw [show (48 : UInt8).toNat = 48 from rfl]; omega)
                rw [hD.out, DP, h49, DP1, hc, dec_one, if_pos rfl]
              have D3 : Hid (((s[p']'(by omega)).toNat : Int) = 49 → decA s.data.toList = dec (s.data.toList.drop (p' + 1)) ((κ2 + 3) % 4) (o ++ [lettr ((κ2 + 3) % 4)])) := fun h => by
                subst hp'
                have hc : s[p + 1] = 49 := UInt8.toNat_inj.1 (by rw [show (49 : UInt8).toNat = 49 from rfl]; omega)
                rw [hD.out, DP, h49, DP1, hc, dec_one, if_neg (by decide)]
              clear DP h49 hD DP1 hcut
              rcases hv2 with hv2 | hv2
              · have E := Lib.hid (D2.out hv2)
                clear D2 D3
                rcases hk3 with rfl | rfl | rfl | rfl
                · have lt := ltr_at (show 1 < 4 by decide)
                  have E2 : Hid ((p' + 1 ≤ s.size ∧ decA s.data.toList = dec (s.data.toList.drop (p' + 1)) 1 (o ++ [lettr 1])) ∨ (p' + 1 = s.size + 1 ∧ decA s.data.toList = (o ++ [lettr 1], false))) := .inl ⟨by omega, E.out⟩
                  have F : Hid (ByteArray.mk o.toArray ++ ByteArray.mk #[lettr 1] = ⟨(o ++ [lettr 1]).toArray⟩) := bytes_app o [lettr 1]
                  have CV := CVL.out (lettr 1) wr
                  have t3 : ¬ 9223372036854775807 < o.length + 1 := by omega
                  have HL : Hid ((o ++ [lettr 1]).length = o.length + 1) := by simp [Hid]
                  skip
                  go_wp2_with fail
                  go_roundw
                  case rel => exact ⟨p' + 1, 1, o ++ [lettr 1], by omega, by omega, by omega, by go_num, by go_num, by rw [F.out], E2, by rw [HL.out]; omega, Ext.more hb _⟩
                  case measure => simp [intOf]; omega
                · have lt := ltr_at (show 2 < 4 by decide)
                  have E2 : Hid ((p' + 1 ≤ s.size ∧ decA s.data.toList = dec (s.data.toList.drop (p' + 1)) 2 (o ++ [lettr 2])) ∨ (p' + 1 = s.size + 1 ∧ decA s.data.toList = (o ++ [lettr 2], false))) := .inl ⟨by omega, E.out⟩
                  have F : Hid (ByteArray.mk o.toArray ++ ByteArray.mk #[lettr 2] = ⟨(o ++ [lettr 2]).toArray⟩) := bytes_app o [lettr 2]
                  have CV := CVL.out (lettr 2) wr
                  have t3 : ¬ 9223372036854775807 < o.length + 1 := by omega
                  have HL : Hid ((o ++ [lettr 2]).length = o.length + 1) := by simp [Hid]
                  skip
                  go_wp2_with fail
                  go_roundw
                  case rel => exact ⟨p' + 1, 2, o ++ [lettr 2], by omega, by omega, by omega, by go_num, by go_num, by rw [F.out], E2, by rw [HL.out]; omega, Ext.more hb _⟩
                  case measure => simp [intOf]; omega
                · have lt := ltr_at (show 3 < 4 by decide)
                  have E2 : Hid ((p' + 1 ≤ s.size ∧ decA s.data.toList = dec (s.data.toList.drop (p' + 1)) 3 (o ++ [lettr 3])) ∨ (p' + 1 = s.size + 1 ∧ decA s.data.toList = (o ++ [lettr 3], false))) := .inl ⟨by omega, E.out⟩
                  have F : Hid (ByteArray.mk o.toArray ++ ByteArray.mk #[lettr 3] = ⟨(o ++ [lettr 3]).toArray⟩) := bytes_app o [lettr 3]
                  have CV := CVL.out (lettr 3) wr
                  have t3 : ¬ 9223372036854775807 < o.length + 1 := by omega
                  have HL : Hid ((o ++ [lettr 3]).length = o.length + 1) := by simp [Hid]
                  skip
                  go_wp2_with fail
                  go_roundw
                  case rel => exact ⟨p' + 1, 3, o ++ [lettr 3], by omega, by omega, by omega, by go_num, by go_num, by rw [F.out], E2, by rw [HL.out]; omega, Ext.more hb _⟩
                  case measure => simp [intOf]; omega
                · have lt := ltr_at (show 0 < 4 by decide)
                  have E2 : Hid ((p' + 1 ≤ s.size ∧ decA s.data.toList = dec (s.data.toList.drop (p' + 1)) 0 (o ++ [lettr 0])) ∨ (p' + 1 = s.size + 1 ∧ decA s.data.toList = (o ++ [lettr 0], false))) := .inl ⟨by omega, E.out⟩
                  have F : Hid (ByteArray.mk o.toArray ++ ByteArray.mk #[lettr 0] = ⟨(o ++ [lettr 0]).toArray⟩) := bytes_app o [lettr 0]
                  have CV := CVL.out (lettr 0) wr
                  have t3 : ¬ 9223372036854775807 < o.length + 1 := by omega
                  have HL : Hid ((o ++ [lettr 0]).length = o.length + 1) := by simp [Hid]
                  skip
                  go_wp2_with fail
                  go_roundw
                  case rel => exact ⟨p' + 1, 0, o ++ [lettr 0], by omega, by omega, by omega, by go_num, by go_num, by rw [F.out], E2, by rw [HL.out]; omega, Ext.more hb _⟩
                  case measure => simp [intOf]; omega
              · have E := Lib.hid (D3.out hv2)
                clear D2 D3
                rcases hk3 with rfl | rfl | rfl | rfl
                · have lt := ltr_at (show 3 < 4 by decide)
                  have E2 : Hid ((p' + 1 ≤ s.size ∧ decA s.data.toList = dec (s.data.toList.drop (p' + 1)) 3 (o ++ [lettr 3])) ∨ (p' + 1 = s.size + 1 ∧ decA s.data.toList = (o ++ [lettr 3], false))) := .inl ⟨by omega, E.out⟩
                  have F : Hid (ByteArray.mk o.toArray ++ ByteArray.mk #[lettr 3] = ⟨(o ++ [lettr 3]).toArray⟩) := bytes_app o [lettr 3]
                  have CV := CVL.out (lettr 3) wr
                  have t3 : ¬ 9223372036854775807 < o.length + 1 := by omega
                  have HL : Hid ((o ++ [lettr 3]).length = o.length + 1) := by simp [Hid]
                  skip
                  go_wp2_with fail
                  go_roundw
                  case rel => exact ⟨p' + 1, 3, o ++ [lettr 3], by omega, by omega, by omega, by go_num, by go_num, by rw [F.out], E2, by rw [HL.out]; omega, Ext.more hb _⟩
                  case measure => simp [intOf]; omega
                · have lt := ltr_at (show 0 < 4 by decide)
                  have E2 : Hid ((p' + 1 ≤ s.size ∧ decA s.data.toList = dec (s.data.toList.drop (p' + 1)) 0 (o ++ [lettr 0])) ∨ (p' + 1 = s.size + 1 ∧ decA s.data.toList = (o ++ [lettr 0], false))) := .inl ⟨by omega, E.out⟩
                  have F : Hid (ByteArray.mk o.toArray ++ ByteArray.mk #[lettr 0] = ⟨(o ++ [lettr 0]).toArray⟩) := bytes_app o [lettr 0]
                  have CV := CVL.out (lettr 0) wr
                  have t3 : ¬ 9223372036854775807 < o.length + 1 := by omega
                  have HL : Hid ((o ++ [lettr 0]).length = o.length + 1) := by simp [Hid]
                  skip
                  go_wp2_with fail
                  go_roundw
                  case rel => exact ⟨p' + 1, 0, o ++ [lettr 0], by omega, by omega, by omega, by go_num, by go_num, by rw [F.out], E2, by rw [HL.out]; omega, Ext.more hb _⟩
                  case measure => simp [intOf]; omega
                · have lt := ltr_at (show 1 < 4 by decide)
                  have E2 : Hid ((p' + 1 ≤ s.size ∧ decA s.data.toList = dec (s.data.toList.drop (p' + 1)) 1 (o ++ [lettr 1])) ∨ (p' + 1 = s.size + 1 ∧ decA s.data.toList = (o ++ [lettr 1], false))) := .inl ⟨by omega, E.out⟩
                  have F : Hid (ByteArray.mk o.toArray ++ ByteArray.mk #[lettr 1] = ⟨(o ++ [lettr 1]).toArray⟩) := bytes_app o [lettr 1]
                  have CV := CVL.out (lettr 1) wr
                  have t3 : ¬ 9223372036854775807 < o.length + 1 := by omega
                  have HL : Hid ((o ++ [lettr 1]).length = o.length + 1) := by simp [Hid]
                  skip
                  go_wp2_with fail
                  go_roundw
                  case rel => exact ⟨p' + 1, 1, o ++ [lettr 1], by omega, by omega, by omega, by go_num, by go_num, by rw [F.out], E2, by rw [HL.out]; omega, Ext.more hb _⟩
                  case measure => simp [intOf]; omega
                · have lt := ltr_at (show 2 < 4 by decide)
                  have E2 : Hid ((p' + 1 ≤ s.size ∧ decA s.data.toList = dec (s.data.toList.drop (p' + 1)) 2 (o ++ [lettr 2])) ∨ (p' + 1 = s.size + 1 ∧ decA s.data.toList = (o ++ [lettr 2], false))) := .inl ⟨by omega, E.out⟩
                  have F : Hid (ByteArray.mk o.toArray ++ ByteArray.mk #[lettr 2] = ⟨(o ++ [lettr 2]).toArray⟩) := bytes_app o [lettr 2]
                  have CV := CVL.out (lettr 2) wr
                  have t3 : ¬ 9223372036854775807 < o.length + 1 := by omega
                  have HL : Hid ((o ++ [lettr 2]).length = o.length + 1) := by simp [Hid]
                  skip
                  go_wp2_with fail
                  go_roundw
                  case rel => exact ⟨p' + 1, 2, o ++ [lettr 2], by omega, by omega, by omega, by go_num, by go_num, by rw [F.out], E2, by rw [HL.out]; omega, Ext.more hb _⟩
                  case measure => simp [intOf]; omega
        · have PKS := Lib.hid (stepsS_any ⟨o.toArray⟩ wr)
          have q0 : ¬ (p : Int) < (s.size : Int) := by omega
          have PK := PD.out
          rcases hDD.out with ⟨hp9, hD⟩ | ⟨_, hD⟩
          · obtain rfl : p = s.size := by omega
            have hD2 : Hid (decA s.data.toList = (o, true)) := by
              rw [Hid, hD, List.drop_eq_nil_of_le (by show s.size ≤ s.size; omega)]; rfl
            rw [hD2.out] at PK
            simp only [if_pos, List.append_nil] at PK
            by_cases h6 : o.length ≤ 600
            · rw [if_pos h6] at PK
              have PV : Hid (pkV ⟨o.toArray⟩ = s ∧ pkB ⟨o.toArray⟩ = true) := pk_yes (s := ⟨o.toArray⟩) (o := s.data.toList) PK
              rw [PV.out.1, PV.out.2] at PKS
              have F : Hid (upV s = ⟨o.toArray⟩ ∧ upB s = true) := by
                have : upOk s.data.toList = true := by rw [UO.out, hD2.out]; simp [h6]
                exact ⟨by rw [upV, if_pos this, hD2.out], this⟩
              clear PK hD hDD
              go_wp2_with fail
              refine PKS.out.mono ?_
              rintro e w4 ⟨rfl, hb4⟩
              have HB := Ext.then_ hb hb4
              go_wp2_with fail
              go_ret2
              exact ⟨ret_up F.out, HB⟩
            · rw [if_neg h6] at PK
              have PV : Hid (pkV ⟨o.toArray⟩ = ⟨#[]⟩ ∧ pkB ⟨o.toArray⟩ = false) := pk_no (s := ⟨o.toArray⟩) PK
              rw [PV.out.1, PV.out.2] at PKS
              have F := Lib.hid (up_no (s := s) (by rw [UO.out, hD2.out]; simp [h6]))
              clear PK hD hDD
              go_wp2_with fail
              refine PKS.out.mono ?_
              rintro e w4 ⟨rfl, hb4⟩
              have HB := Ext.then_ hb hb4
              go_wp2_with fail
              go_ret2
              exact ⟨ret_up F.out, HB⟩
          · have F := Lib.hid (up_no (s := s) (by rw [UO.out, hD]; rfl))
            rw [hD] at PK
            by_cases h6 : o.length ≤ 600
            · have PK2 : pkR (ByteArray.mk o.toArray).data.toList = some (s.data.toList ++ [49]) := by
                rw [if_pos h6] at PK; exact PK
              have PV : Hid (pkV ⟨o.toArray⟩ = ⟨(s.data.toList ++ [49]).toArray⟩ ∧ pkB ⟨o.toArray⟩ = true) := pk_yes (s := ⟨o.toArray⟩) PK2
              have NE : (ByteArray.toList ⟨(s.data.toList ++ [49]).toArray⟩ == s.toList) = false := by
                rw [ByteArray.toList_eq, ByteArray.toList_eq, beq_eq_false_iff_ne]
                intro h
                have := congrArg List.length h
                simp at this
              rw [PV.out.1, PV.out.2] at PKS
              generalize ByteArray.mk (s.data.toList ++ [49]).toArray = bk at *
              clear PK hD hDD PK2 PV
              go_wp2_with fail
              refine PKS.out.mono ?_
              rintro e w4 ⟨rfl, hb4⟩
              have HB := Ext.then_ hb hb4
              go_wp2_with fail
              go_ret2
              exact ⟨ret_up F.out, HB⟩
            · have PK2 : pkR (ByteArray.mk o.toArray).data.toList = none := by rw [if_neg h6] at PK; exact PK
              have PV : Hid (pkV ⟨o.toArray⟩ = ⟨#[]⟩ ∧ pkB ⟨o.toArray⟩ = false) := pk_no (s := ⟨o.toArray⟩) PK2
              rw [PV.out.1, PV.out.2] at PKS
              clear PK hD hDD PK2 PV
              go_wp2_with fail
              refine PKS.out.mono ?_
              rintro e w4 ⟨rfl, hb4⟩
              have HB := Ext.then_ hb hb4
              go_wp2_with fail
              go_ret2
              exact ⟨ret_up F.out, HB⟩
end Go.Proofs.YtogefmkplkddoaaDoor
