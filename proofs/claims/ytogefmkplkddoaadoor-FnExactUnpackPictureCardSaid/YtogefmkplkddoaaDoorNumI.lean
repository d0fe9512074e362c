/- Numbers read from their codes: the program's. -/
import Derived.Test.YtogefmkplkddoaaDoorNumIP
import Derived.Test.YtogefmkplkddoaaDoorCodeI
import Derived.Laws.RangeString
import Derived.Laws.RangeAny
import Derived.Deep.RegionLaw
namespace Go.Proofs.YtogefmkplkddoaaDoor
open Go.RowKit

def bsz (v : Value) : Nat := match v with | .string b => b.size | _ => 0
theorem bsz_str (b : ByteArray) : bsz (.string b) = b.size := rfl
theorem ex_list (t : ByteArray) (a b : Nat) : (t.extract a b).data.toList = (t.data.toList.drop a).take (b - a) := by
  rw [← ByteArray.toList_eq]; exact Lib.extract_toList t a b
theorem ex_size (t : ByteArray) (a b : Nat) (h : b ≤ t.size) : (t.extract a b).size = b - a := by
  have h2 : (t.extract a b).data.toList.length = (t.extract a b).size := rfl
  rw [← h2, ex_list, List.length_take, List.length_drop]
  have : t.data.toList.length = t.size := rfl
  omega
theorem NmRes.yes {w w' : World} {s : ByteArray} {g c : Nat} {o : List Int} (h : nmO s = o ∧ nmB s = true) (ho : w'.ownsRow w.heap.size 2 1 (.slice (some ⟨g, 0, none⟩) o.length c) o.length (ints o)) (hb : Below w.heap.size w w') : NmRes w s (.returned (.tuple #[.slice (some ⟨g, 0, none⟩) o.length c, .bool true])) w' := by
  unfold NmRes
  rw [h.1, h.2]
  exact ⟨_, c, rfl, ho, hb⟩
theorem ba_eq {a b : ByteArray} (h : a.data.toList = b.data.toList) : a = b := by
  rw [← Lib.mk_data a, ← Lib.mk_data b, h]
theorem ex_at (t : ByteArray) (a b j : Nat) (hb : b ≤ t.size) (h : a + j < b) (h2 : j < (t.extract a b).size) : ((t.extract a b)[j]'h2) = t[a + j]'(by omega) := by
  have e := byte_at (t.extract a b) j h2
  rw [← e, ← byte_at t (a + j) (by omega), ex_list]
  simp only [List.getD_eq_getElem?_getD]
  rw [List.getElem?_take_of_lt (by omega), List.getElem?_drop]
set_option maxHeartbeats 400000 in
theorem numbersS_any (s : ByteArray) (w : World) (hs : s.size ≤ 1000000000) : Calls Tryd.prog 9 #[.string s] w (NmRes w s) := by
  have C := Lib.hid (l10numbers_any s w hs)
  cases h : nmB s
  · have F : Hid (nmO s = [] ∧ nmB s = false) := by
      refine ⟨?_, h⟩
      rw [nmB] at h; rw [nmO]
      cases e : nmR s with
      | none => rfl
      | some o => rw [e] at h; cases h
    go_enter Tryd.func9, Tryd.ntmps9
    go_wp2_with fail
    refine (C.out).mono ?_
    rintro e w' ⟨g, c, o, rfl, _, ho, hb⟩
    rw [h]
    clear ho
    go_wp2_with fail
    go_ret2
    exact NmRes.no F.out hb
  · go_enter Tryd.func9, Tryd.ntmps9
    go_wp2_with fail
    refine (C.out).mono ?_
    rintro e w' ⟨g, c, o, rfl, hf, ho, hb⟩
    have F := Lib.hid (And.intro (hf h) h)
    have HO := Lib.hid ho
    rw [h]
    clear ho hf
    go_wp2_with fail
    go_ret2
    exact NmRes.yes F.out HO.out hb
set_option maxRecDepth 100000 in
set_option maxHeartbeats 2000000 in
theorem numbers_any (s : ByteArray) (w : World) (hs : s.size ≤ 1000000000) : Calls Tryd.prog 37 #[.string s] w (NmRes w s) := by
  by_cases hbig : 2000 < s.size
  · have t0 : (2000 : Int) < (s.size : Int) := by omega
    have F := Lib.hid (nm_no (s := s) (by rw [nmR, if_neg (by omega)]))
    go_enter Tryd.func37, Tryd.ntmps37
    go_wp2_with fail
    go_ret2
    exact NmRes.no F.out (Ext.refl _)
  obtain ⟨w1, hw1⟩ : ∃ w1, w.alloc (.cells #[] 2) = w1 := ⟨_, rfl⟩
  have O1 : w1.ownsRow w.heap.size 2 1 (.slice (some ⟨w.heap.size, 0, none⟩) 0 0) 0 (ints []) := by rw [← hw1]; exact World.ownsRow_lit (e := 2) (size := 1) w #[] 0 (Nat.le_refl _) (by decide) rfl
  have B1 : Below w.heap.size w w1 := by rw [← hw1]; exact Ext.more (Ext.refl _) _
  have HW1 := Lib.hid hw1
  have t0 : ¬ (2000 : Int) < (s.size : Int) := by omega
  have RR : Hid (nmR s = nmV s.data.toList) := by rw [Hid, nmR, if_pos (by omega)]
  have V0 : Hid (nmV s.data.toList = (nmV s.data.toList).map (([] : List Int) ++ ·)) := by
    rw [Hid]; cases nmV s.data.toList <;> rfl
  have TR := Lib.hid (fun (t : ByteArray) V (h : t.size ≤ 1000000) => trim_any t [48, 49] V h (by decide) (by decide))
  have hs2 : s.size ≤ 2000 := by omega
  clear hw1 hbig
  go_enter Tryd.func37, Tryd.ntmps37
  go_wp2_with fail
  try simp only [HW1.out]
  go_loopw [0, 4, 5, 6, 8] (fun sv ov _ _ _ wr => ∃ (t : ByteArray) (g c : Nat) (o : List Int), sv = .string t ∧ ov = .slice (some ⟨g, 0, none⟩) o.length c ∧ Hid (nmV s.data.toList = (nmV t.data.toList).map (o ++ ·)) ∧ o.length + t.size ≤ 2000 ∧
    wr.ownsRow w.heap.size 2 1 (.slice (some ⟨g, 0, none⟩) o.length c) o.length (ints o) ∧ Below w.heap.size w wr) (fun sv _ _ _ _ _ => bsz sv)
  case atStart => exact ⟨s, _, _, [], rfl, rfl, V0, by simp; omega, O1, B1⟩
  case round =>
    obtain ⟨t, g, c, o, rfl, rfl, hV, hsz, hown, hb⟩ := hrel
    clear O1 B1
    have HOW := Lib.hid hown
    have gl := hown.lt g rfl
    clear hown
    by_cases hte : t.size = 0
    · have e0 : t.data.toList = [] := List.eq_nil_of_length_eq_zero hte
      have NEt : t.toList.isEmpty = true := by rw [ByteArray.toList_eq, e0]; rfl
      have F := Lib.hid (nm_yes (s := s) (o := o) (by rw [RR.out, hV.out, e0, nmV_nil]; simp [Option.map]))
      clear hte e0
      go_wp2_with fail
      go_ret2
      exact NmRes.yes F.out HOW.out hb
    have hne : Hid (t.data.toList ≠ []) := fun e => hte (by have := congrArg List.length e; exact this)
    have NEt : t.toList.isEmpty = false := by
      rw [ByteArray.toList_eq]; cases e : t.data.toList with | nil => exact absurd e hne.out | cons => rfl
    have BADR : Hid (nmStep t.data.toList = none → nmO s = [] ∧ nmB s = false) := fun h => nm_no (by rw [RR.out, hV.out, nmV_bad hne.out h]; rfl)
    have IB := Lib.hid (fun V => (Tryd.strings_IndexByte t 49 V).mono (fun e w' hh => (show e = .returned (.int .i64 (Lib.indexByte t.data.toList 49)) ∧ V = w' from ⟨hh.1, hh.2.symm⟩)))
    have hlen : t.data.toList.length = t.size := rfl
    rcases idx_spec t.data.toList with ⟨x1, x2⟩ | ⟨k, x1, x2, x3, x4⟩
    · have F := Lib.hid (BADR.out (step_no1 x2))
      rw [x1] at IB
      clear x1 x2 hlen hte
      go_wp2_with fail
      refine (IB.out _).mono ?_
      rintro e w' ⟨rfl, rfl⟩
      go_wp2_with fail
      go_ret2
      exact NmRes.no F.out hb
    rw [x1] at IB
    rw [hlen] at x2
    have k0 : ¬ (k : Int) < 0 := by omega
    by_cases h30 : 30 < k
    · have F := Lib.hid (BADR.out (step_far (by rw [hlen]; exact x2) x3 x4 (.inl (by omega))))
      have q1 : (30 : Int) < (k : Int) := by omega
      clear x1 x3 x4 hlen hte
      go_wp2_with fail
      refine (IB.out _).mono ?_
      rintro e w' ⟨rfl, rfl⟩
      go_wp2_with fail
      go_ret2
      exact NmRes.no F.out hb
    have q1 : ¬ (30 : Int) < (k : Int) := by omega
    by_cases hsh : t.size < 2 * k + 1
    · have F := Lib.hid (BADR.out (step_far (by rw [hlen]; exact x2) x3 x4 (.inr (by rw [hlen]; exact hsh))))
      have q2 : (t.size : Int) < 2 * (k : Int) + 1 := by omega
      clear x1 x3 x4 hlen hte
      go_wp2_with fail
      refine (IB.out _).mono ?_
      rintro e w' ⟨rfl, rfl⟩
      go_wp2_with fail
      go_ret2
      exact NmRes.no F.out hb
    have q2 : ¬ (t.size : Int) < 2 * (k : Int) + 1 := by omega
    obtain ⟨r, hr⟩ : ∃ r, 2 * k + 1 = r := ⟨_, rfl⟩
    have er : 2 * (k : Int) + 1 = (r : Int) := by omega
    have r0 : (0 : Int) ≤ (r : Int) := by omega
    have r1 : (r : Int) ≤ (t.size : Int) := by omega
    have rN : r ≤ t.size := by omega
    rw [er] at q2
    have TX := Lib.hid (fun V => TR.out (t.extract 0 r) V (by rw [ex_size t 0 r rN]; omega))
    have TL : Hid (Lib.trimS (t.extract 0 r).data.toList [48, 49] = [] ↔ bitL (t.data.toList.take (2 * k + 1))) := by
      rw [Hid, trimS_nil, ex_list, List.drop_zero, Nat.sub_zero, hr]
      unfold bitL
      exact ⟨fun h b hb => by simpa using h b hb, fun h b hb => by simpa using h b hb⟩
    generalize Lib.trimS (t.extract 0 r).data.toList [48, 49] = tb at *
    have TE : (ByteArray.mk tb.toArray).toList.isEmpty = tb.isEmpty := by rw [ByteArray.toList_eq]
    generalize ByteArray.mk tb.toArray = ts at TX TE
    by_cases hbit : bitL (t.data.toList.take (2 * k + 1))
    case neg =>
      have F := Lib.hid (BADR.out (step_odd (by rw [hlen]; exact x2) x3 x4 (by rw [hlen]; omega) hbit))
      have htb : tb ≠ [] := fun e => hbit (TL.out.1 e)
      have NE : ts.toList.isEmpty = false := by rw [TE]; cases tb with | nil => exact absurd rfl htb | cons => rfl
      clear x1 x3 x4 hlen hte hbit htb TE TL
      go_wp2_with fail
      refine (IB.out _).mono ?_
      rintro e w' ⟨rfl, rfl⟩
      go_wp2_with fail
      refine (TX.out _).mono ?_
      rintro e w5 ⟨rfl, hb5⟩
      go_wp2_with fail
      go_ret2
      exact NmRes.no F.out (Ext.then_ hb hb5)
    have htb : tb = [] := TL.out.2 hbit
    have NE : ts.toList.isEmpty = true := by rw [TE, htb]; rfl
    obtain ⟨g1, g2, g3, g4⟩ := step_good (by rw [hlen]; exact x2) x3 x4 (by rw [hlen]; omega) hbit
    have hb01 := (all_take (bs := t.data.toList) (m := 2 * k + 1) (by rw [hlen]; omega)).1 (bits_iff.2 hbit)
    have FAR : Hid (29 < k → nmStep t.data.toList = none) := fun h => step_far (by rw [hlen]; exact x2) x3 x4 (.inl h)
    have kr : k ≤ r := by omega
    have US : Hid ((t.extract k r).size = k + 1) := by rw [Hid, ex_size t k r rN]; omega
    have UB : Hid (∀ j (h : j < (t.extract k r).size), ((t.extract k r)[j]'h = 48 ∨ (t.extract k r)[j]'h = 49) ∧ (t.data.toList.drop k).getD j 0 = (t.extract k r)[j]'h) := fun j h => by
      have hj : j < k + 1 := by have := US.out; omega
      have e := ex_at t k r j rN (by omega) h
      have e2 := byte_at t (k + j) (by omega)
      refine ⟨?_, ?_⟩
      · rw [e, ← e2]; exact hb01 (k + j) (by omega)
      · rw [e, ← e2]; simp only [List.getD_eq_getElem?_getD, List.getElem?_drop]
    have CE : Hid (codeB (vTo (t.data.toList.drop k) (k + 1)) = t.extract 0 r) := ba_eq (by
      show codeL _ = _
      rw [g4, ex_list, List.drop_zero, Nat.sub_zero, hr])
    have G1 := Lib.hid g1
    have hpw : 2 ^ (k + 1) ≤ 2 ^ 31 := Nat.pow_le_pow_right (by decide) (by omega)
    have vmax : vTo (t.data.toList.drop k) (k + 1) < 2147483648 := Nat.lt_of_lt_of_le g3 hpw
    have vlo : k = 30 → 1000000000 < vTo (t.data.toList.drop k) (k + 1) := fun e => by
      have : 2 ^ 30 ≤ vTo (t.data.toList.drop k) (k + 1) := by rw [← e]; rw [e] at g2 ⊢; exact g2
      omega
    have v1 : 1 ≤ vTo (t.data.toList.drop k) (k + 1) := Nat.le_trans (Nat.one_le_two_pow) g2
    have HVL := Lib.hid (And.intro vlo v1)
    have HVM := Lib.hid vmax
    have kr0 : (0 : Int) ≤ (k : Int) := by omega
    have kr1 : (k : Int) ≤ (r : Int) := by omega
    clear x1 x3 x4 hlen hte hbit htb TE TL g1 g2 g3 g4 hb01 hpw vlo v1 vmax
    go_wp2_with fail
    refine (IB.out _).mono ?_
    rintro e w' ⟨rfl, rfl⟩
    go_wp2_with fail
    refine (TX.out _).mono ?_
    rintro e w5 ⟨rfl, hb5⟩
    have B5 := Ext.then_ hb hb5
    have HO5 := Lib.hid (own_ext hb5 HOW.out)
    have z5 := B5.size
    have y5 := hb5.size
    clear hb hb5 HOW
    go_wp2_with fail
    go_loopw [6, 8] (fun nv _ wq => ∃ j : Nat, j ≤ k + 1 ∧ wq = w5.iter (t.extract k r) j ∧ nv = .int .i64 ((vTo (t.data.toList.drop k) j : Nat) : Int) ∧ vTo (t.data.toList.drop k) j < 2 ^ j) (fun _ _ wq => k + 1 - wq.iterPos w5.heap.size)
    case atStart => exact ⟨0, by omega, rfl, rfl, Nat.one_pos⟩
    case round =>
      obtain ⟨j, hj, rfl, rfl, hv2⟩ := hrel
      by_cases hjl : j < k + 1
      · have hju : j < (t.extract k r).size := by rw [US.out]; exact hjl
        obtain ⟨hbt, hgd⟩ := UB.out j hju
        have hp2 : 2 ^ j ≤ 2 ^ 30 := Nat.pow_le_pow_right (by decide) (by omega)
        have hv30 : vTo (t.data.toList.drop k) j < 1073741824 := Nat.lt_of_lt_of_le hv2 hp2
        have VS : Hid (vTo (t.data.toList.drop k) (j + 1) = 2 * vTo (t.data.toList.drop k) j + (((t.data.toList.drop k).getD j 0).toNat - 48)) := rfl
        have P2 : Hid (2 ^ (j + 1) = 2 * 2 ^ j) := by rw [Hid, Nat.pow_succ]; omega
        rcases hbt with h | h
        · have hnx : ∀ ty, (Instr.next (.pointer (some ⟨w5.heap.size, 0, none⟩)) true ty).run Tryd.prog (w5.iter (t.extract k r) j) = .ok (.tuple #[.bool true, .int .i64 j, .int .i32 48]) (w5.iter (t.extract k r) (j + 1)) := fun ty => by
            rw [run_next_any w5 (t.extract k r) j ty hju, decode_ascii _ _ hju (by rw [h]; decide), h]; rfl
          have VT : Hid (vTo (t.data.toList.drop k) (j + 1) = 2 * vTo (t.data.toList.drop k) j) := by rw [Hid, VS.out, hgd, h]; rfl
          have L2 : Hid (vTo (t.data.toList.drop k) (j + 1) < 2 ^ (j + 1)) := by rw [Hid, VT.out, P2.out]; omega
          clear h hgd VS hp2 hju
          generalize vTo (t.data.toList.drop k) j = v at *
          go_wp2_with fail
          go_roundw
          case rel => exact ⟨j + 1, by omega, rfl, by rw [VT.out]; go_num, L2.out⟩
          case measure => simp; omega
        · have hnx : ∀ ty, (Instr.next (.pointer (some ⟨w5.heap.size, 0, none⟩)) true ty).run Tryd.prog (w5.iter (t.extract k r) j) = .ok (.tuple #[.bool true, .int .i64 j, .int .i32 49]) (w5.iter (t.extract k r) (j + 1)) := fun ty => by
            rw [run_next_any w5 (t.extract k r) j ty hju, decode_ascii _ _ hju (by rw [h]; decide), h]; rfl
          have VT : Hid (vTo (t.data.toList.drop k) (j + 1) = 2 * vTo (t.data.toList.drop k) j + 1) := by rw [Hid, VS.out, hgd, h]; rfl
          have L2 : Hid (vTo (t.data.toList.drop k) (j + 1) < 2 ^ (j + 1)) := by rw [Hid, VT.out, P2.out]; omega
          clear h hgd VS hp2 hju
          generalize vTo (t.data.toList.drop k) j = v at *
          go_wp2_with fail
          go_roundw
          case rel => exact ⟨j + 1, by omega, rfl, by rw [VT.out]; go_num, L2.out⟩
          case measure => simp; omega
      · obtain rfl : j = k + 1 := by omega
        have hnx : ∀ ty, (Instr.next (.pointer (some ⟨w5.heap.size, 0, none⟩)) true ty).run Tryd.prog (w5.iter (t.extract k r) (k + 1)) = _ := fun ty => run_next_end w5 (t.extract k r) (k + 1) ty (by rw [US.out]; omega)
        have B6 : Below w.heap.size w (w5.iter (t.extract k r) (k + 1)) := Ext.more B5 (.stringIter (t.extract k r) (k + 1))
        have B56 : Below w5.heap.size w5 (w5.iter (t.extract k r) (k + 1)) := Ext.more (Ext.refl _) (.stringIter (t.extract k r) (k + 1))
        have HO6 := Lib.hid (own_ext B56 HO5.out)
        have vm := HVM.out
        obtain ⟨vlo, v1⟩ := HVL.out
        clear hv2 UB
        generalize vTo (t.data.toList.drop k) (k + 1) = v at *
        have IN := Lib.hid (fun V => in_any (v : Int) 1 1000000000 V)
        have e1 : IntKind.i64.wrap (2 * (k : Int)) = 2 * (k : Int) := IntWalk.i64_in _ (by omega)
        have e2 : IntKind.i64.wrap (2 * (k : Int) + 1) = (r : Int) := by rw [er]; exact IntWalk.i64_in _ (by omega)
        obtain ⟨w6, hw6⟩ : ∃ w6, w5.iter (t.extract k r) (k + 1) = w6 := ⟨_, rfl⟩
        rw [hw6] at B6 HO6
        have HW6 := Lib.hid hw6
        by_cases hmax : v ≤ 1000000000
        · have k29 : k ≤ 29 := by
            by_cases h : k = 30
            · have := vlo h; omega
            · omega
          rw [show inB (v : Int) 1 1000000000 = true from inB_true (by omega) (by omega)] at IN
          have CD := Lib.hid (fun V => code_any v V (by omega) (by omega))
          rw [CE.out] at CD
          have ee : ((t.extract 0 r).toList == (t.extract 0 r).toList) = true := by simp
          have V2 : Hid (nmV s.data.toList = (nmV (t.extract r t.size).data.toList).map ((o ++ [(v : Int)]) ++ ·)) := by
            rw [Hid, hV.out, nmV_good hne.out (by rw [G1.out k29, if_pos hmax]), map_snoc, ex_list, hr]
            congr 2
            rw [List.take_of_length_le (by rw [List.length_drop]; exact Nat.le_refl _)]
          have rS : (t.extract r t.size).size = t.size - r := ex_size t r t.size (Nat.le_refl _)
          have HRS := Lib.hid rS
          have HL : Hid ((o ++ [(v : Int)]).length = o.length + 1) := by simp [Hid]
          have hr1 : 1 ≤ r := by omega
          clear vlo hw6 B56 FAR BADR HVL HVM rS
          go_wp2_with fail
          try simp only [HW6.out]
          refine wp_region_held_quiet (fun U => Below w6.heap.size w6 U) (by kernel_rfl) (by kernel_rfl) (Ext.refl _).drew ?_
          have ne : Nonempty (HeldW (fun U => Below w6.heap.size w6 U)) := ⟨⟨w6, Ext.refl _⟩⟩
          repeat (go_big_quiet_step ((first | (go_at_call 67; exact Calls.above_of _ (Calls.lift (IN.out _))) | (go_at_call 68; exact Calls.above_of _ (CD.out _)))))
          refine wpQuiet_nil ?_
          intro w7 hw'
          obtain ⟨⟨_, hb7⟩, rfl⟩ := hw'
          clear ne 
          have B7 := Ext.then_ B6 hb7
          have OX := Lib.hid (fun V (h : Below w7.heap.size w7 V) => own_ext h (own_ext hb7 HO6.out))
          have z7 := B7.size
          have g7 : g < w7.heap.size := by have := hb7.size; have := (HO6.out.lt g rfl).2; omega
          clear hb7 B6 HO6 ee
          have e3 : IntKind.i64.wrap (r : Int) = (r : Int) := IntWalk.i64_in _ (by omega)
          go_wp2_with fail
          go_region_law (first
            | (refine step_app intT (by rfl) _ _ (by rfl) w.heap.size (.slice (some ⟨g, 0, none⟩) o.length c) o.length (ints o) (by rfl) (OX.out _ (Ext.more (Ext.draw (Ext.refl _)) _)) _ #[.int .i64 v] (by rfl) (heap_alloc_new _ _) rfl (by simp [Value.oneCell']) (by omega) (by simp; omega) ?_; intro g8 c8 w8 own8 hg8 hat8 hlt8))
          all_goals
            have B8 : Below w.heap.size w w8 := (Ext.more (Ext.draw B7) _).grown hg8 (by simp; omega) (fun z hz => by simp [Value.ownBlock] at hz; omega)
            have HO8 := Lib.hid (own_i64 own8 (Nat.le_refl _) (ys := ints (o ++ [(v : Int)])) (m := (o ++ [(v : Int)]).length) (by rw [ints_snoc]) (by simp))
            clear own8 hg8 hat8 hlt8
            go_wp2_with fail
            go_simp
            exact ⟨⟨_, _, _, _, ⟨t.extract r t.size, rfl, g8, c8, o ++ [(v : Int)], by rw [HL.out], V2, by rw [HL.out, HRS.out]; omega, HO8.out⟩, rfl, rfl, rfl, rfl⟩, by rw [bsz_str, bsz_str, HRS.out]; omega⟩
        · have F := Lib.hid (BADR.out (by
            by_cases h : 29 < k
            · exact FAR.out h
            · rw [G1.out (by omega), if_neg hmax]))
          rw [show inB (v : Int) 1 1000000000 = false from inB_not.2 (by omega)] at IN
          clear vlo hw6 B56 FAR BADR HVL HVM
          go_wp2_with fail
          try simp only [HW6.out]
          refine wp_region_held_quiet (fun U => Below w6.heap.size w6 U) (by kernel_rfl) (by kernel_rfl) (Ext.refl _).drew ?_
          have ne : Nonempty (HeldW (fun U => Below w6.heap.size w6 U)) := ⟨⟨w6, Ext.refl _⟩⟩
          repeat (go_big_quiet_step ((go_at_call 67; exact Calls.above_of _ (Calls.lift (IN.out _)))))
          refine wpQuiet_nil ?_
          intro w7 hw'
          obtain ⟨⟨_, hb7⟩, rfl⟩ := hw'
          clear ne 
          have B7 := Ext.then_ B6 hb7
          go_wp2_with fail
          go_ret2
          exact NmRes.no F.out B7
set_option maxHeartbeats 400000 in
theorem numbersI_any (s : ByteArray) (w : World) (hs : s.size ≤ 1000000000) : Calls Tryd.prog 10 #[.string s] w (NmRes w s) := by
  have C := Lib.hid (numbers_any s w hs)
  go_enter Tryd.func10, Tryd.ntmps10
  go_wp2_with fail
  refine (C.out).mono ?_
  rintro e w' ⟨A, c, rfl, ho, hb⟩
  have HO := Lib.hid ho
  clear ho
  go_wp2_with fail
  go_ret2
  exact ⟨A, c, rfl, HO.out, hb⟩
end Go.Proofs.YtogefmkplkddoaaDoor
