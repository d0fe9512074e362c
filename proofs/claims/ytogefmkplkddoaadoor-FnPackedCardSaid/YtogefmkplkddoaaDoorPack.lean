/- The code of a picture: both sides. -/
import Derived.Test.YtogefmkplkddoaaDoorTldP
import Derived.Test.YtogefmkplkddoaaDoorNumI
import Derived.Test.YtogefmkplkddoaaDoorAlong
import Derived.Test.YtogefmkplkddoaaDoorWith
import Derived.Test.YtogefmkplkddoaaDoorResP
import Derived.Test.YtogefmkplkddoaaDoorHQ
import Derived.Deep.CutRange
import Derived.Deep.DeepCutAuto
namespace Go.Proofs.YtogefmkplkddoaaDoor
open Go.RowKit

/-- The codes of numbers that are one more, behind a text. -/
def packL (b : ByteArray) (ns : List Int) : ByteArray := ns.foldl (fun a n => a ++ codeB (n + 1).toNat) b
theorem packL_snoc (b : ByteArray) (ns : List Int) (n : Int) : packL b (ns ++ [n]) = packL b ns ++ codeB (n + 1).toNat := by simp [packL, List.foldl_append]
theorem packL_take {b : ByteArray} {ns : List Int} {k : Nat} (h : k < ns.length) : packL b (ns.take (k + 1)) = packL b (ns.take k) ++ codeB (ns[k] + 1).toNat := by
  rw [List.take_succ_eq_append_getElem h, packL_snoc]
def packB (rows : List ByteArray) : ByteArray := packL (codeB (picW rows) ++ codeB rows.length) (colR (resL (picBits rows) (picW rows) rows.length))
def packV (rows : List ByteArray) : ByteArray := if picOk rows then packB rows else ByteArray.empty

theorem codeB_size {n : Nat} (h : n ≤ 1000000001) : (codeB n).size ≤ 61 := by
  have h1 := codeL_length n
  have h2 := bins_31 h
  show (codeL n).toArray.size ≤ 61
  rw [List.size_toArray]; omega
theorem packL_size : ∀ (ns : List Int) (b : ByteArray), (∀ n ∈ ns, 0 ≤ n ∧ n ≤ 1000000000) → (packL b ns).size ≤ b.size + 61 * ns.length
  | [], b, _ => by simp [packL]
  | n :: ns, b, h => by
    have ih := packL_size ns (b ++ codeB (n + 1).toNat) (fun m hm => h m (List.mem_cons_of_mem _ hm))
    have h0 := h n (List.mem_cons_self ..)
    have h1 := codeB_size (n := (n + 1).toNat) (by omega)
    rw [ByteArray.size_append] at ih
    simp only [List.length_cons]
    show (packL (b ++ codeB (n + 1).toNat) ns).size ≤ _
    omega
theorem no_more {a b : ByteArray} (h : a.size + b.size ≤ 1000000) : ¬ 9223372036854775807 < a.size + b.size := by omega
theorem run_mem {bs : List Bool} {k : Nat} (hk : k ≤ bs.length) : ∀ n ∈ (colTo bs k).1, 0 ≤ n ∧ n ≤ (k : Int) := by
  intro n hn
  obtain ⟨i, hi, rfl⟩ := List.getElem_of_mem hn
  exact (colTo_bd bs k hk).2.2 i hi
/-- The last run. -/
def lastI (l : List Int) : Int := l.getD (l.length - 1) 0
theorem drop_last {l : List Int} (h : 0 < l.length) : l = l.dropLast ++ [lastI l] := by
  have hne : l ≠ [] := by intro e; subst e; simp at h
  rw [lastI, List.getD_eq_getElem?_getD, List.getElem?_eq_getElem (by omega), Option.getD_some]
  have := List.dropLast_concat_getLast hne
  rw [List.getLast_eq_getElem] at this
  exact this.symm
theorem incL_split {l : List Int} (h : 0 < l.length) : incL l = l.dropLast ++ [lastI l + 1] := by
  have e := drop_last h
  have hl : l.dropLast.length = l.length - 1 := by simp
  have : incL l = (l.dropLast ++ [lastI l]).set (l.length - 1) (lastI l + 1) := by
    rw [← e]; rfl
  rw [this, List.set_append, if_neg (by omega), hl, Nat.sub_self]
  rfl
theorem incL_drop {l : List Int} (h : 0 < l.length) : (incL l).dropLast = l.dropLast := by rw [incL_split h]; simp
theorem incL_last {l : List Int} (h : 0 < l.length) : lastI (incL l) = lastI l + 1 := by rw [incL_split h]; simp [lastI]
theorem colS_same {s : List Int × Bool} {b : Bool} (h : b = s.2) (hl : 0 < s.1.length) : (colS s b).1.dropLast = s.1.dropLast ∧ lastI (colS s b).1 = lastI s.1 + 1 ∧ (colS s b).2 = s.2 := by
  rw [colS, if_pos h]; exact ⟨incL_drop hl, incL_last hl, h⟩
theorem colS_turn {s : List Int × Bool} {b : Bool} (h : ¬ b = s.2) : (colS s b).1.dropLast = s.1 ∧ lastI (colS s b).1 = 1 ∧ (colS s b).2 = b := by
  rw [colS, if_neg h]
  have hl : 0 < (s.1 ++ [(0 : Int)]).length := by simp
  refine ⟨?_, ?_, rfl⟩
  · show (incL (s.1 ++ [0])).dropLast = s.1
    rw [incL_drop hl]; simp
  · show lastI (incL (s.1 ++ [0])) = 1
    rw [incL_last hl]; simp [lastI]
theorem lastI_bd (bs : List Bool) {k : Nat} (h : k ≤ bs.length) : 0 ≤ lastI (colTo bs k).1 ∧ lastI (colTo bs k).1 ≤ k := by
  obtain ⟨h1, h2, h3⟩ := colTo_bd bs k h
  have := h3 ((colTo bs k).1.length - 1) (by omega)
  rw [lastI, List.getD_eq_getElem?_getD, List.getElem?_eq_getElem (by omega), Option.getD_some]
  exact this

set_option maxRecDepth 100000 in
set_option maxHeartbeats 1000000 in
theorem packS_any (p : Nat) (A0 : Option Addr) (c0 : Nat) (rows : List ByteArray) (w : World) (h : PicAt w p A0 c0 rows) (hok : picOk rows = true) :
    Calls Tryd.prog 48 #[.pointer (some ⟨p, 0, none⟩)] w fun e w' => e = .returned (.string (packB rows)) ∧ Below w.heap.size w w' := by
  obtain ⟨s1, s2, s3, s4⟩ := picOk_sizes hok
  have PH := Lib.hid (fun V (hb : Below w.heap.size w V) => h.ext hb)
  have WH := Lib.hid (width_any p A0 c0 rows w h s1)
  have HH := Lib.hid (fun V (hV : PicAt V p A0 c0 rows) => height_any p A0 c0 rows V hV)
  have RH := Lib.hid (fun V (hV : PicAt V p A0 c0 rows) => residueS_any p A0 c0 rows V hV hok)
  have LL := Lib.hid (fun q (A : Option Addr) (c : Nat) V (hV : PicAt V q A c (rowsTo (resL (picBits rows) (picW rows) rows.length) (picW rows) rows.length)) => listP_any q A c _ V hV (told_ok s3 s4 s1 s2))
  have CS := Lib.hid (fun (n : Nat) V (hn : n ≤ 1000000001) => codeS_any n V hn)
  rw [told_w s1, rowsTo_length, told_bits s1 (by rw [resL_eq, bTo_length])] at LL
  have PB : Hid (packB rows = packL (codeB (picW rows) ++ codeB rows.length) (colR (resL (picBits rows) (picW rows) rows.length))) := rfl
  have hbl : (resL (picBits rows) (picW rows) rows.length).length = picW rows * rows.length := by rw [resL_eq, bTo_length]
  rw [PB.out]
  clear PB h hok
  generalize resL (picBits rows) (picW rows) rows.length = bs at *
  generalize picW rows = W at *
  generalize rows.length = H at *
  have CB := Lib.hid (fun k (h : k < bs.length) => colTo_succ h)
  have LB := Lib.hid (fun k (h : k ≤ bs.length) => lastI_bd bs h)
  have CL := Lib.hid (fun k (h : k ≤ bs.length) => (colTo_bd bs k h).1)
  have CR : Hid (colR bs = (colTo bs (W * H)).1) := by rw [Hid, ← hbl]; rfl
  have C0 := Lib.hid (colTo_zero bs)
  have HBL := Lib.hid hbl
  clear hbl
  have hWH : W * H ≤ 256 := Nat.le_trans (Nat.mul_le_mul s4 s2) (by decide)
  go_enter Tryd.func48, Tryd.ntmps48
  go_wp2_with fail
  refine WH.out.mono ?_
  rintro e w1 ⟨rfl, rfl⟩
  go_wp2_with fail
  refine (CS.out W _ (by omega)).mono ?_
  rintro e w1 ⟨rfl, hb1⟩
  go_wp2_with fail
  refine (HH.out _ (PH.out _ hb1)).mono ?_
  rintro e w2 ⟨rfl, rfl⟩
  go_wp2_with fail
  refine (CS.out H _ (by omega)).mono ?_
  rintro e w2 ⟨rfl, hb2⟩
  have B2 := Ext.then_ hb1 hb2
  clear hb1 hb2 WH
  have z1 := codeB_size (n := W) (by omega)
  have z2 := codeB_size (n := H) (by omega)
  have nm := no_more (a := codeB W) (b := codeB H) (by omega)
  have hb0 : (codeB W ++ codeB H).size ≤ 122 := by rw [ByteArray.size_append]; omega
  go_wp2_with fail
  refine (RH.out _ (PH.out _ B2)).mono ?_
  rintro e w3 ⟨A3, c3, rfl, own3, hb3⟩
  have B3 := Ext.more (Ext.then_ B2 hb3) (.cells #[.slice A3 H c3] 36)
  have P3 : PicAt (w3.alloc (.cells #[.slice A3 H c3] 36)) w3.heap.size A3 c3 (rowsTo bs W H) := by
    refine ⟨by simp, ?_, (Rd.of_own own3).ext (Ext.more (Ext.refl _) _)⟩
    rw [rowsTo_length]
    have := (Blk.made w3 36 #[.slice A3 H c3]).cell 0
    exact this
  have L1 := Lib.hid (LL.out _ _ _ _ P3)
  clear LL RH HH PH P3 own3 hb3 B2
  go_wp2_with fail
  refine L1.out.mono ?_
  rintro e w4 ⟨A4, c4, rfl, own4, hb4⟩
  have B4 := Ext.then_ B3 hb4
  have RD := Lib.hid (Rd.of_own own4)
  clear B3 hb4 own4 L1
  generalize hbb : codeB W ++ codeB H = b0 at *
  have HBB := Lib.hid hbb
  clear hbb
  generalize W * H = n at *
  go_wp2_with fail
  go_loopw [3, 6, 7, 8] (fun o b z i wr => ∃ k : Nat, k ≤ n ∧ i = .int .i64 k ∧ b = .bool (colTo bs k).2 ∧ z = .int .i64 (lastI (colTo bs k).1) ∧ o = .string (packL b0 (colTo bs k).1.dropLast) ∧ Below w4.heap.size w4 wr) (fun _ _ _ i _ => n - (intOf i).toNat)
  case atStart => exact ⟨0, Nat.zero_le _, rfl, by rw [C0.out], by rw [C0.out]; rfl, by rw [C0.out]; rfl, Ext.refl _⟩
  case round =>
    obtain ⟨k, hk, rfl, rfl, rfl, rfl, hb⟩ := hrel
    have lb := LB.out k (by rw [HBL.out]; exact hk)
    have cl := CL.out k (by rw [HBL.out]; exact hk)
    obtain ⟨m, hm⟩ : ∃ m : Nat, lastI (colTo bs k).1 = m := ⟨(lastI (colTo bs k).1).toNat, by omega⟩
    rw [hm] at lb
    obtain ⟨q, hq⟩ : ∃ q, q = m + 1 := ⟨_, rfl⟩
    have jq : IntKind.i64.wrap ((m : Int) + 1) = (q : Int) := by rw [hq]; exact IntWalk.i64_in _ (by omega)
    have PL : Hid (packL b0 (colTo bs k).1 = packL b0 (colTo bs k).1.dropLast ++ codeB q) := by
      have e := drop_last cl
      rw [Hid]
      conv => lhs; rw [e]
      rw [packL_snoc, hm, hq]
      congr 2
    have C1 := Lib.hid (CS.out q)
    have nm2 := no_more (a := packL b0 (colTo bs k).1.dropLast) (b := codeB q) (by
      have h1 := packL_size (colTo bs k).1.dropLast b0 (fun v hv => by have := run_mem (bs := bs) (k := k) (by rw [HBL.out]; exact hk) v ((List.dropLast_sublist _).subset hv); omega)
      have h2 := codeB_size (n := q) (by omega)
      have h3 := (colTo_bd bs k (by rw [HBL.out]; exact hk)).2.1
      have h4 : (colTo bs k).1.dropLast.length = (colTo bs k).1.length - 1 := by simp
      omega)
    have hq2 : q ≤ 257 := by omega
    have HQ := Lib.hid hq
    clear hq
    by_cases hlt : k < n
    · obtain ⟨g, rfl, hg, hcell⟩ := RD.out (by simp [bools, HBL.out]; omega)
      have cb := hcell k (by simp [bools, HBL.out]; exact hlt)
      have kb : k < bs.length := by rw [HBL.out]; exact hlt
      have CS1 := CB.out k kb
      have cbr : wr.cell? ⟨g, k, none⟩ = some (.bool bs[k]) := by
        rw [(hb.cell (p := ⟨g, k, none⟩) hg), cb]; simp [bools]
      have SAME := Lib.hid (fun (h : bs[k] = (colTo bs k).2) => colS_same h cl)
      have TURN := Lib.hid (fun (h : ¬ bs[k] = (colTo bs k).2) => colS_turn h)
      have CSH := Lib.hid CS1
      have HM := Lib.hid hm
      have i0 : (0 : Int) ≤ (k : Int) := by omega
      have i1 : (k : Int) < (n : Int) := by omega
      clear hcell cb CS1 cl hm
      rw [HM.out] at SAME
      generalize hs1 : colTo bs (k + 1) = s1 at *
      have HS1 := Lib.hid hs1
      clear hs1
      generalize hs : colTo bs k = s at *
      have HS := Lib.hid hs
      clear hs
      generalize bs[k] = x at *
      by_cases hx : x = s.2
      · have hd := SAME.out hx
        rw [← CSH.out] at hd
        have HD := Lib.hid hd
        have nn : (s.2 != s.2) = false := by simp
        subst hx
        clear hd SAME TURN CSH
        rw [HM.out]
        go_wp2_with fail
        go_roundw
        case rel =>
          refine ⟨k + 1, by omega, by go_num, ?_, ?_, ?_, hb⟩
          · rw [HS1.out, HD.out.2.2]
          · rw [HS1.out, HD.out.2.1, HQ.out]; simp
          · rw [HS1.out, HD.out.1]
        case measure => simp [intOf]; omega
      · have hd := TURN.out hx
        rw [← CSH.out] at hd
        have HD := Lib.hid hd
        have nn : (!x == s.2) = true := by simp [hx]
        have nt : (!s.2) = x := by cases x <;> cases h : s.2 <;> simp_all
        have j0 : IntKind.i64.wrap ((0 : Int) + 1) = 1 := by decide
        rw [HM.out]
        clear hd SAME TURN CSH hx
        go_wp2_with (go_at_call 84; refine (C1.out _ (by omega)).mono ?_; rintro e w5 ⟨rfl, hb5⟩)
        go_roundw
        case rel =>
          refine ⟨k + 1, by omega, by go_num, ?_, ?_, ?_, Ext.then_ hb hb5⟩
          · rw [HS1.out, HD.out.2.2]
          · rw [HS1.out, HD.out.2.1]
          · rw [HS1.out, HD.out.1, PL.out]
        case measure => simp [intOf]; omega
    · obtain rfl : k = n := by omega
      rw [hm]
      go_wp2_with (go_at_call 84; refine (C1.out _ (by omega)).mono ?_; rintro e w5 ⟨rfl, hb5⟩)
      go_ret
      exact ⟨by rw [CR.out, HBB.out, PL.out]; rfl, Ext.then_ B4 (Ext.then_ hb hb5)⟩
theorem Img.rdB {w : World} {p g W H : Nat} {L : List Bool} (h : Img w p g W H L) : Rd w (some ⟨g, 0, none⟩) (bools L) := by
  intro h0
  refine ⟨g, rfl, h.bits.lt, fun i hi => ?_⟩
  rw [h.bits.cell i]
  simp [boolC, bools] at hi ⊢
set_option maxRecDepth 100000 in
set_option maxHeartbeats 1000000 in
theorem packed_any (p g W H : Nat) (L : List Bool) (w : World) (h : Img w p g W H L) (hW0 : 0 < W) (hW : W ≤ 16) (hH0 : 0 < H) (hH : H ≤ 16) :
    Calls Tryd.prog 52 #[.pointer (some ⟨p, 0, none⟩)] w fun e w' => e = .returned (.string (packL (codeB W ++ codeB H) (colR (resL L W H)))) ∧ Below w.heap.size w w' := by
  have c0 := h.hdr.cell 0
  have c1 := h.hdr.cell 1
  simp at c0 c1
  have hp := h.hdr.lt
  have RH := Lib.hid (fun V (hb : Below w.heap.size w V) => residue_any p g W H L V (h.ext hb) (by omega) (by omega))
  have CW := Lib.hid (fun V => code_any W V hW0 (by omega))
  have CH := Lib.hid (fun V => code_any H V hH0 (by omega))
  have hbl : (resL L W H).length = W * H := by rw [resL_eq, bTo_length]
  have hWH : W * H ≤ 256 := Nat.le_trans (Nat.mul_le_mul hW hH) (by decide)
  have CO := Lib.hid (fun (A : Option Addr) (cc : Nat) V (h : Rd V A (bools (resL L W H))) => colours_any A cc (W * H) (resL L W H) V h hbl (by omega))
  have CA := Lib.hid (fun (n : Nat) V (h0 : 0 < n) (hn : n ≤ 1000000001) => code_any n V h0 hn)
  have z1 := codeB_size (n := W) (by omega)
  have z2 := codeB_size (n := H) (by omega)
  have nm := no_more (a := codeB W) (b := codeB H) (by omega)
  have hb0 : (codeB W ++ codeB H).size ≤ 122 := by rw [ByteArray.size_append]; omega
  have RB := Lib.hid (fun n (hn : n ∈ colR (resL L W H)) => run_mem (Nat.le_refl _) n hn)
  have RL : (colR (resL L W H)).length ≤ 257 := by
    have := (colTo_bd (resL L W H) _ (Nat.le_refl _)).2.1
    rw [hbl] at this
    show (colTo _ _).1.length ≤ 257
    rw [hbl]; omega
  rw [hbl] at RB
  clear h hbl
  go_enter Tryd.func52, Tryd.ntmps52
  go_wp2_with fail
  refine wp_region_held_quiet (fun V => Below w.heap.size w V) (by kernel_rfl) (by kernel_rfl) (Ext.refl _).drew ?_
  have ne : Nonempty (HeldW (fun V => Below w.heap.size w V)) := ⟨⟨w, Ext.refl _⟩⟩
  have k0 : ∀ i : HeldW (fun V => Below w.heap.size w V), i.w.cell? ⟨p, 0, none⟩ = some (.int .i64 W) := fun i => (i.h.cell (p := ⟨p, 0, none⟩) hp).trans c0
  have k1 : ∀ i : HeldW (fun V => Below w.heap.size w V), i.w.cell? ⟨p, 1, none⟩ = some (.int .i64 H) := fun i => (i.h.cell (p := ⟨p, 1, none⟩) hp).trans c1
  repeat (go_big_quiet_step (first
    | (go_at_call_of 68 (Value.int .i64 (W : Int)); exact Calls.above_of _ (CW.out _))
    | (go_at_call_of 68 (Value.int .i64 (H : Int)); exact Calls.above_of _ (CH.out _))))
  refine wpQuiet_nil ?_
  intro _ hw'
  obtain ⟨⟨w2, hb2⟩, rfl⟩ := hw'
  clear ne k0 k1 CW CH
  generalize hbb : codeB W ++ codeB H = b0 at *
  have HBB := Lib.hid hbb
  clear hbb
  go_wp2_with fail
  refine (RH.out _ hb2).mono ?_
  rintro e w3 ⟨⟨p', g', rfl, hI⟩, hb3⟩
  have B3 := Ext.then_ hb2 hb3
  have d2 := hI.hdr.cell 2
  simp at d2
  have C1 := Lib.hid (CO.out _ (W * H) w3 hI.rdB)
  clear CO RH hb2 hb3 hI
  go_wp2_with fail
  refine C1.out.mono ?_
  rintro e w4 ⟨A4, c4, rfl, own4, hb4⟩
  have B4 := Ext.then_ B3 hb4
  have RD := Lib.hid (Rd.of_own own4)
  clear C1 B3 hb4 own4 d2
  generalize hns : colR (resL L W H) = ns at *
  have HNS := Lib.hid hns
  clear hns
  generalize hnl : ns.length = nl at *
  have HNL := Lib.hid hnl
  clear hnl
  go_wp2_with fail
  go_loopw [3, 5, 24] (fun o _ i wr => ∃ k : Nat, k ≤ nl ∧ i = .int .i64 k ∧ o = .string (packL b0 (ns.take k)) ∧ Below w4.heap.size w4 wr) (fun _ _ i _ => nl - (intOf i).toNat)
  case atStart => exact ⟨0, Nat.zero_le _, rfl, rfl, Ext.refl _⟩
  case round =>
    obtain ⟨k, hk, rfl, rfl, hb⟩ := hrel
    by_cases hlt : k < nl
    · obtain ⟨g, rfl, hg, hcell⟩ := RD.out (by simp [ints, HNL.out]; omega)
      have kb : k < ns.length := by rw [HNL.out]; exact hlt
      have cb := hcell k (by simpa [ints] using kb)
      have cbr : wr.cell? ⟨g, k, none⟩ = some (.int .i64 ns[k]) := by
        rw [(hb.cell (p := ⟨g, k, none⟩) hg), cb]; simp [ints]
      have lb := RB.out ns[k] (List.getElem_mem _)
      have PT := Lib.hid (packL_take (b := b0) kb)
      obtain ⟨m, hm⟩ : ∃ m : Nat, ns[k] = m := ⟨(ns[k]).toNat, by omega⟩
      rw [hm] at lb cbr PT
      obtain ⟨q, hq⟩ : ∃ q, q = m + 1 := ⟨_, rfl⟩
      have jq : IntKind.i64.wrap ((m : Int) + 1) = (q : Int) := by rw [hq]; exact IntWalk.i64_in _ (by omega)
      rw [show ((m : Int) + 1).toNat = q by omega] at PT
      have nm2 := no_more (a := packL b0 (ns.take k)) (b := codeB q) (by
        have h1 := packL_size (ns.take k) b0 (fun v hv => by have := RB.out v (List.mem_of_mem_take hv); omega)
        have h2 := codeB_size (n := q) (by omega)
        have h3 : (ns.take k).length ≤ k := by rw [List.length_take]; omega
        omega)
      have C2 := Lib.hid (CA.out q wr (by omega) (by omega))
      have i0 : (0 : Int) ≤ (k : Int) := by omega
      have i1 : (k : Int) < (nl : Int) := by omega
      clear hcell cb hm hq lb
      go_wp2_with (go_at_call 68; refine C2.out.mono ?_; rintro e w5 ⟨rfl, hb5⟩)
      go_roundw
      case rel => exact ⟨k + 1, by omega, by go_num, by rw [PT.out], Ext.then_ hb hb5⟩
      case measure => simp [intOf]; omega
    · obtain rfl : k = nl := by omega
      have TK : Hid (ns.take k = ns) := List.take_of_length_le (by rw [HNL.out]; exact Nat.le_refl _)
      go_wp2_with fail
      go_ret
      exact ⟨by rw [HNS.out, HBB.out, TK.out]; rfl, Ext.then_ B4 hb⟩
set_option maxHeartbeats 400000 in
theorem packPicture_any (A : Option Addr) (c : Nat) (rows : List ByteArray) (w : World) (h : Rd w A (strs rows)) (hn : rows.length ≤ 1000000000) :
    Calls Tryd.prog 27 #[.agg #[.slice A rows.length c]] w fun e w' => e = .returned (.tuple #[.string (packV rows), .bool (picOk rows)]) ∧ Below w.heap.size w w' := by
  have B1 : Below w.heap.size w (w.alloc (.cells #[.slice A rows.length c] 36)) := Ext.more (Ext.refl _) _
  have IM := Lib.hid (imageOf_any A c rows _ (h.ext B1) hn)
  cases hp : picOk rows
  · have V : Hid (packV rows = ByteArray.empty) := by simp [Hid, packV, hp]
    have IH := Lib.hid (IM.out.mono (fun e w' hI => (show e = .returned (.tuple #[.pointer none, .bool false]) ∧ Below _ _ w' from ⟨hI.no hp, hI.ext⟩)))
    rw [V.out]
    clear IM hp h hn
    go_enter Tryd.func27, Tryd.ntmps27
    go_wp2_with fail
    refine IH.out.mono ?_
    rintro e w1 ⟨rfl, hb⟩
    go_wp2_with fail
    go_ret2
    exact ⟨rfl, Ext.then_ B1 hb⟩
  · have V : Hid (packV rows = packL (codeB (picW rows) ++ codeB rows.length) (colR (resL (picBits rows) (picW rows) rows.length))) := by simp [Hid, packV, packB, hp]
    have IH := Lib.hid (IM.out.mono (fun e w' hI => (show (∃ p g, e = .returned (.tuple #[.pointer (some ⟨p, 0, none⟩), .bool true]) ∧ Img w' p g (picW rows) rows.length (picBits rows)) ∧ Below _ _ w' from ⟨(hI.yes hp).elim fun p h => h.elim fun g h => ⟨p, g, h.1, h.2.1⟩, hI.ext⟩)))
    obtain ⟨s1, s2, s3, s4⟩ := picOk_sizes hp
    have PK := Lib.hid (fun p g V (hV : Img V p g (picW rows) rows.length (picBits rows)) => packed_any p g _ _ _ V hV s3 s4 s1 s2)
    rw [V.out]
    clear IM hp h hn
    go_enter Tryd.func27, Tryd.ntmps27
    go_wp2_with fail
    refine IH.out.mono ?_
    rintro e w1 ⟨⟨p, g, rfl, hm⟩, hb⟩
    have P1 := Lib.hid (PK.out p g w1 hm)
    clear hm PK
    go_wp2_with fail
    refine P1.out.mono ?_
    rintro e w2 ⟨rfl, hb2⟩
    go_wp2_with fail
    go_ret2
    exact ⟨rfl, Ext.then_ (Ext.then_ B1 hb) hb2⟩
end Go.Proofs.YtogefmkplkddoaaDoor
