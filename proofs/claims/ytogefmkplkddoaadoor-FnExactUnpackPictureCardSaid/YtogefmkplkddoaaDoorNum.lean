/- Numbers read from their codes: the reference's. -/
import Derived.Test.YtogefmkplkddoaaDoorNumP
import Derived.Test.YtogefmkplkddoaaDoorUps
namespace Go.Proofs.YtogefmkplkddoaaDoor
open Go.RowKit

/-- A call has returned numbers of memory of its own, none where there are none. -/
def NmRes (w : World) (s : ByteArray) (e : Ending) (w' : World) : Prop :=
  ∃ A c, e = .returned (.tuple #[.slice A (nmO s).length c, .bool (nmB s)]) ∧ w'.ownsRow w.heap.size 2 1 (.slice A (nmO s).length c) (nmO s).length (ints (nmO s)) ∧ Below w.heap.size w w'
theorem own_nil (w : World) (lo : Nat) (e : TypeId) (s : Nat) : w.ownsRow lo e s (.slice none 0 0) 0 [] := ⟨by simp, .inl ⟨rfl, rfl⟩⟩
theorem nm_no {s : ByteArray} (h : nmR s = none) : nmO s = [] ∧ nmB s = false := by simp [nmO, nmB, h]
theorem nm_yes {s : ByteArray} {o : List Int} (h : nmR s = some o) : nmO s = o ∧ nmB s = true := by simp [nmO, nmB, h]
theorem NmRes.no {w w' : World} {s : ByteArray} (h : nmO s = [] ∧ nmB s = false) (hb : Below w.heap.size w w') : NmRes w s (.returned (.tuple #[.slice none 0 0, .bool false])) w' := by
  unfold NmRes
  rw [h.1, h.2]
  exact ⟨none, 0, rfl, own_nil _ _ _ _, hb⟩
theorem getD_drop (s : ByteArray) (i j : Nat) (h : i + j < s.size) : (s.data.toList.drop i).getD j 0 = s[i + j] := by
  rw [← byte_at s (i + j) h]
  simp only [List.getD_eq_getElem?_getD, List.getElem?_drop]
theorem own_i64 {w : World} {base base' g n cap : Nat} {xs : List Value} (h : w.ownsRow base 2 1 (.slice (some ⟨g, 0, none⟩) n cap) n xs) (hb : base' ≤ base) {ys : List Value} {m : Nat} (hx : xs = ys) (hn : n = m) : w.ownsRow base' 2 1 (.slice (some ⟨g, 0, none⟩) m cap) m ys := by
  subst hx hn; exact own_base h hb
theorem ints_snoc (o : List Int) (n : Int) : ints (o ++ [n]) = ints o ++ [.int .i64 n] := by simp [ints]
def NsRes (w : World) (s : ByteArray) (e : Ending) (w' : World) : Prop :=
  ∃ (g c : Nat) (o : List Int), e = .returned (.tuple #[.slice (some ⟨g, 0, none⟩) o.length c, .bool (nmB s)]) ∧ (nmB s = true → nmO s = o) ∧ w'.ownsRow w.heap.size 2 1 (.slice (some ⟨g, 0, none⟩) o.length c) o.length (ints o) ∧ Below w.heap.size w w'
theorem NsRes.no {w w' : World} {s : ByteArray} {g c : Nat} {o : List Int} (h : nmB s = false) (ho : w'.ownsRow w.heap.size 2 1 (.slice (some ⟨g, 0, none⟩) o.length c) o.length (ints o)) (hb : Below w.heap.size w w') : NsRes w s (.returned (.tuple #[.slice (some ⟨g, 0, none⟩) o.length c, .bool false])) w' := by
  refine ⟨g, c, o, by rw [h], (fun h2 => by rw [h] at h2; cases h2), ho, hb⟩
theorem NsRes.yes {w w' : World} {s : ByteArray} {g c : Nat} {o : List Int} (h : nmO s = o ∧ nmB s = true) (ho : w'.ownsRow w.heap.size 2 1 (.slice (some ⟨g, 0, none⟩) o.length c) o.length (ints o)) (hb : Below w.heap.size w w') : NsRes w s (.returned (.tuple #[.slice (some ⟨g, 0, none⟩) o.length c, .bool true])) w' :=
  ⟨g, c, o, by rw [h.2], (fun _ => h.1), ho, hb⟩
theorem all_take {bs : List UInt8} {m : Nat} (hm : m ≤ bs.length) : ((bs.take m).all fun b => b == 48 || b == 49) = true ↔ ∀ a, a < m → bs.getD a 0 = 48 ∨ bs.getD a 0 = 49 := by
  rw [List.all_eq_true]
  constructor
  · intro h a ha
    have e : bs.getD a 0 = bs[a]'(by omega) := by rw [List.getD_eq_getElem?_getD, List.getElem?_eq_getElem (by omega)]; rfl
    rw [e]
    have := h (bs[a]'(by omega)) (by
      have h2 : a < (bs.take m).length := by rw [List.length_take]; omega
      have := List.getElem_mem h2
      rwa [List.getElem_take] at this)
    simpa using this
  · intro h b hb
    obtain ⟨a, ha, rfl⟩ := List.getElem_of_mem hb
    rw [List.length_take] at ha
    have e : bs.getD a 0 = bs[a]'(by omega) := by rw [List.getD_eq_getElem?_getD, List.getElem?_eq_getElem (by omega)]; rfl
    have := h a (by omega)
    rw [e] at this
    rw [List.getElem_take]
    simpa using this
theorem map_snoc (o : List Int) (n : Int) (x : Option (List Int)) : (x.map (n :: ·)).map (o ++ ·) = x.map ((o ++ [n]) ++ ·) := by
  cases x <;> simp
set_option maxRecDepth 100000 in
set_option maxHeartbeats 2000000 in
theorem l10numbers_any (s : ByteArray) (w : World) (hs : s.size ≤ 1000000000) : Calls Tryd.prog 36 #[.string s] w (NsRes w s) := by
  have hlen : s.data.toList.length = s.size := rfl
  obtain ⟨w1, hw1⟩ : ∃ w1, w.alloc (.cells #[] 2) = w1 := ⟨_, rfl⟩
  have O1 : w1.ownsRow w.heap.size 2 1 (.slice (some ⟨w.heap.size, 0, none⟩) 0 0) 0 (ints []) := by rw [← hw1]; exact World.ownsRow_lit (e := 2) (size := 1) w #[] 0 (Nat.le_refl _) (by decide) rfl
  have B1 : Below w.heap.size w w1 := by rw [← hw1]; exact Ext.more (Ext.refl _) _
  have HW1 := Lib.hid hw1
  clear hw1
  by_cases hbig : 2000 < s.size
  · have t0 : (2000 : Int) < (s.size : Int) := by omega
    have F := Lib.hid (nm_no (s := s) (by rw [nmR, if_neg (by omega)]))
    have HO := Lib.hid O1
    clear O1 hlen
    go_enter Tryd.func36, Tryd.ntmps36
    go_wp2_with fail
    try simp only [HW1.out]
    go_ret2
    exact NsRes.no F.out.2 HO.out B1
  have t0 : ¬ (2000 : Int) < (s.size : Int) := by omega
  have RR : Hid (nmR s = nmV s.data.toList) := by rw [Hid, nmR, if_pos (by omega)]
  have V0 : Hid (nmV s.data.toList = (nmV (s.data.toList.drop 0)).map (([] : List Int) ++ ·)) := by
    rw [Hid, List.drop_zero]; cases nmV s.data.toList <;> rfl
  have GD := Lib.hid (fun i j h => getD_drop s i j h)
  have HLN := Lib.hid hlen
  clear hlen
  go_enter Tryd.func36, Tryd.ntmps36
  go_wp2_with fail
  try simp only [HW1.out]
  go_loopw [4, 5, 6, 7, 8] (fun ov iv _ _ _ wr => ∃ (i g c : Nat) (o : List Int), i ≤ s.size ∧ iv = .int .i64 i ∧ ov = .slice (some ⟨g, 0, none⟩) o.length c ∧ Hid (nmV s.data.toList = (nmV (s.data.toList.drop i)).map (o ++ ·)) ∧ o.length ≤ i ∧
    wr.ownsRow w.heap.size 2 1 (.slice (some ⟨g, 0, none⟩) o.length c) o.length (ints o) ∧ Below w.heap.size w wr) (fun _ iv _ _ _ _ => s.size - (intOf iv).toNat)
  case atStart => exact ⟨0, _, _, [], Nat.zero_le _, rfl, rfl, V0, Nat.le_refl _, O1, B1⟩
  case round =>
    obtain ⟨i, g, c, o, hi, rfl, rfl, hV, hol, hown, hb⟩ := hrel
    clear O1 B1
    have HOW := Lib.hid hown
    have gl := hown.lt g rfl
    clear hown
    by_cases hlt : i < s.size
    · have i0 : (0 : Int) ≤ (i : Int) := by omega
      have i1 : (i : Int) < (s.size : Int) := by omega
      have NE : Hid (s.data.toList.drop i ≠ []) := fun e => by
        have := congrArg List.length e
        rw [List.length_drop] at this
        have h2 := HLN.out
        simp at this; omega
      have LEN : Hid ((s.data.toList.drop i).length = s.size - i) := by rw [Hid, List.length_drop]; have := HLN.out; omega
      have BADR : Hid (nmStep (s.data.toList.drop i) = none → nmB s = false) := fun h => by
        refine (nm_no ?_).2
        rw [RR.out, hV.out, nmV_bad NE.out h]; rfl
      go_wp2_with fail
      go_loop [6] (fun zv => ∃ z : Nat, i + z ≤ s.size ∧ zv = .int .i64 z ∧ Hid (∀ j, j < z → (s.data.toList.drop i).getD j 0 = 48)) (fun zv => s.size - (intOf zv).toNat)
      case atStart => exact ⟨0, by omega, rfl, fun j h => absurd h (Nat.not_lt_zero _)⟩
      case round =>
        obtain ⟨z, hz, rfl, hzs⟩ := hrel
        obtain ⟨p, hp⟩ : ∃ p, i + z = p := ⟨_, rfl⟩
        have ep : (i : Int) + (z : Int) = (p : Int) := by omega
        by_cases hpl : p < s.size
        · have p0 : (0 : Int) ≤ (p : Int) := by omega
          have p1 : (p : Int) < (s.size : Int) := by omega
          have gp := GD.out i z (by omega)
          by_cases h48 : s[p] = 48
          · have hv : ((s[p].toNat : Nat) : Int) = 48 := by rw [h48]; rfl
            have ZN : Hid (∀ j, j < z + 1 → (s.data.toList.drop i).getD j 0 = 48) := fun j hj => by
              rcases Nat.lt_succ_iff_lt_or_eq.1 hj with h | h
              · exact hzs.out j h
              · subst h; rw [gp]; subst hp; exact h48
            clear gp h48
            go_wp2_with fail
            go_round
            case rel => exact ⟨z + 1, by omega, by go_num, ZN⟩
            case measure => simp [intOf]; omega
          · have hv : (((s[p].toNat : Nat) : Int) == 48) = false := by
              rw [beq_eq_false_iff_ne]; intro e; exact h48 (UInt8.toNat_inj.1 (by rw [show (48 : UInt8).toNat = 48 from rfl]; omega))
            have ZR : Hid (zrs (s.data.toList.drop i) = z) := zrs_is (by rw [LEN.out]; omega) hzs.out (fun _ => by rw [gp]; subst hp; exact h48)
            clear gp h48
            have zlt : z < s.size - i := by omega
            by_cases h29 : 29 < z
            · have F := Lib.hid (BADR.out (by rw [nmStep, if_pos]; rw [ZR.out]; exact .inl h29))
              have q2 : (29 : Int) < (z : Int) := by omega
              go_wp2_with fail
              go_ret2
              exact NsRes.no F.out HOW.out hb
            have q2 : ¬ (29 : Int) < (z : Int) := by omega
            by_cases hsh : s.size < i + (2 * z + 1)
            · have F := Lib.hid (BADR.out (by rw [nmStep, if_pos]; rw [ZR.out, LEN.out]; omega))
              have q3 : (s.size : Int) < (i : Int) + 2 * (z : Int) + 1 := by omega
              go_wp2_with fail
              go_ret2
              exact NsRes.no F.out HOW.out hb
            have q3 : ¬ (s.size : Int) < (i : Int) + 2 * (z : Int) + 1 := by omega
            have BS : Hid (∀ j (h : j < z + 1), (s.data.toList.drop p).getD j 0 = s[p + j]'(by omega)) := fun j h => GD.out p j (by omega)
            have DD : Hid ((s.data.toList.drop i).drop z = s.data.toList.drop p) := by rw [Hid, List.drop_drop, hp]
            have PL : Hid ((s.data.toList.drop p).length = s.size - p) := by rw [Hid, List.length_drop]; have := HLN.out; omega
            go_wp2_with fail
            go_loop [7, 8] (fun nv kv => ∃ j : Nat, j ≤ z + 1 ∧ kv = .int .i64 ((p : Int) + (j : Int)) ∧ nv = .int .i64 ((vTo (s.data.toList.drop p) j : Nat) : Int) ∧ Hid (∀ a, a < j → (s.data.toList.drop p).getD a 0 = 48 ∨ (s.data.toList.drop p).getD a 0 = 49) ∧ vTo (s.data.toList.drop p) j < 2 ^ j) (fun _ kv => s.size + 1 - (intOf kv).toNat)
            case atStart => exact ⟨0, by omega, by go_num, rfl, (fun a h => absurd h (Nat.not_lt_zero _)), Nat.one_pos⟩
            case round =>
              obtain ⟨j, hj, rfl, rfl, hbits, hv2⟩ := hrel
              have hpw : 2 ^ j ≤ 2 ^ 30 := Nat.pow_le_pow_right (by decide) (by omega)
              have hv30 : vTo (s.data.toList.drop p) j < 1073741824 := Nat.lt_of_lt_of_le hv2 hpw
              have VS : Hid (vTo (s.data.toList.drop p) (j + 1) = 2 * vTo (s.data.toList.drop p) j + (((s.data.toList.drop p).getD j 0).toNat - 48)) := rfl
              have P2 : Hid (2 ^ (j + 1) = 2 * 2 ^ j) := by rw [Hid, Nat.pow_succ]; omega
              by_cases hjl : j < z + 1
              · have bj := BS.out j hjl
                obtain ⟨k, hk⟩ : ∃ k, p + j = k := ⟨_, rfl⟩
                have ek : (p : Int) + (j : Int) = (k : Int) := by omega
                have hks : k < s.size := by omega
                have bk : (s.data.toList.drop p).getD j 0 = s[k] := by rw [bj]; subst hk; rfl
                have k0 : (0 : Int) ≤ (k : Int) := by omega
                have k1 : (k : Int) < (s.size : Int) := by omega
                have q4 : (k : Int) ≤ (i : Int) + 2 * (z : Int) := by omega
                by_cases hbit : s[k] = 48 ∨ s[k] = 49
                · have B2 : Hid (∀ a, a < j + 1 → (s.data.toList.drop p).getD a 0 = 48 ∨ (s.data.toList.drop p).getD a 0 = 49) := fun a ha => by
                    rcases Nat.lt_succ_iff_lt_or_eq.1 ha with h | h
                    · exact hbits.out a h
                    · subst h; rw [bk]; exact hbit
                  rcases hbit with h | h
                  · have hv : ((s[k].toNat : Nat) : Int) = 48 := by rw [h]; rfl
                    have VT : Hid (vTo (s.data.toList.drop p) (j + 1) = 2 * vTo (s.data.toList.drop p) j) := by rw [Hid, VS.out, bk, h]; rfl
                    have L2 : Hid (vTo (s.data.toList.drop p) (j + 1) < 2 ^ (j + 1)) := by rw [Hid, VT.out, P2.out]; omega
                    clear h bk bj VS hpw
                    generalize vTo (s.data.toList.drop p) j = v at *
                    go_wp2_with fail
                    go_round
                    case rel => exact ⟨j + 1, by omega, by go_num, by rw [VT.out]; go_num, B2, L2.out⟩
                    case measure => simp [intOf]; omega
                  · have hv : ((s[k].toNat : Nat) : Int) = 49 := by rw [h]; rfl
                    have VT : Hid (vTo (s.data.toList.drop p) (j + 1) = 2 * vTo (s.data.toList.drop p) j + 1) := by rw [Hid, VS.out, bk, h]; rfl
                    have L2 : Hid (vTo (s.data.toList.drop p) (j + 1) < 2 ^ (j + 1)) := by rw [Hid, VT.out, P2.out]; omega
                    clear h bk bj VS hpw
                    generalize vTo (s.data.toList.drop p) j = v at *
                    go_wp2_with fail
                    go_round
                    case rel => exact ⟨j + 1, by omega, by go_num, by rw [VT.out]; go_num, B2, L2.out⟩
                    case measure => simp [intOf]; omega
                · have F := Lib.hid (BADR.out (by
                    rw [nmStep]
                    split
                    · rfl
                    · rw [if_neg]
                      intro hh
                      have h2 := hh.1
                      rw [ZR.out, DD.out] at h2
                      have := (all_take (by rw [PL.out]; omega)).1 h2 j hjl
                      rw [bk] at this
                      exact hbit this))
                  obtain ⟨q5, q6⟩ := byte_not hbit
                  have q7 : (((s[k].toNat : Nat) : Int) != 48) = true := by rw [bne, q5]; rfl
                  have q8 : (((s[k].toNat : Nat) : Int) != 49) = true := by rw [bne, q6]; rfl
                  clear bk bj VS hpw hbit
                  generalize vTo (s.data.toList.drop p) j = v at *
                  go_wp2_with fail
                  go_ret2
                  exact NsRes.no F.out HOW.out hb
              · obtain rfl : j = z + 1 := by omega
                have q4 : ¬ (p : Int) + ((z + 1 : Nat) : Int) ≤ (i : Int) + 2 * (z : Int) := by omega
                have q4' : ¬ (p : Int) + ((z : Int) + 1) ≤ (i : Int) + 2 * (z : Int) := by omega
                have ALL := (all_take (bs := s.data.toList.drop p) (m := z + 1) (by rw [PL.out]; omega)).2 hbits.out
                have ST : Hid (nmStep (s.data.toList.drop i) = if vTo (s.data.toList.drop p) (z + 1) ≤ 1000000000 then some (vTo (s.data.toList.drop p) (z + 1), s.data.toList.drop (i + (2 * z + 1))) else none) := by
                  rw [Hid, nmStep, if_neg (by rw [ZR.out, LEN.out]; omega), ZR.out, DD.out, ALL, List.drop_drop]
                  simp
                clear ALL VS hpw hv2
                generalize vTo (s.data.toList.drop p) (z + 1) = v at *
                by_cases hmax : v ≤ 1000000000
                · have V2 : Hid (nmV s.data.toList = (nmV (s.data.toList.drop (i + (2 * z + 1)))).map ((o ++ [(v : Int)]) ++ ·)) := by
                    rw [Hid, hV.out, nmV_good NE.out (by rw [ST.out, if_pos hmax]), map_snoc]
                  have q5 : ¬ (1000000000 : Int) < (v : Int) := by omega
                  have HL : Hid ((o ++ [(v : Int)]).length = o.length + 1) := by simp [Hid]
                  have hbz := hb.size
                  go_wp2_with (at_builtin; refine wpList_app intT (by rfl) _ _ (by rfl) w.heap.size (.slice (some ⟨g, 0, none⟩) o.length c) o.length (ints o) (by rfl) (HOW.out.alloc _) wr.heap.size #[.int .i64 v] (by rfl) (heap_alloc_new _ _) rfl (by simp [Value.oneCell']) (by omega) (by simp; omega) ?_; intro g5 c5 w5 own5 hg5 hat5 hlt5)
                  have B5 : Below w.heap.size w w5 := (Ext.more hb _).grown hg5 (by simp; omega) (fun z hz => by simp [Value.ownBlock] at hz; omega)
                  have HO := Lib.hid (own_i64 own5 (Nat.le_refl _) (ys := ints (o ++ [(v : Int)])) (m := (o ++ [(v : Int)]).length) (by rw [ints_snoc]) (by simp))
                  clear own5 hg5 hat5 hlt5
                  go_wp2_with fail
                  go_roundw
                  case rel => exact ⟨i + (2 * z + 1), g5, c5, o ++ [(v : Int)], by omega, by go_num, by rw [HL.out], V2, by rw [HL.out]; omega, HO.out, B5⟩
                  case measure => simp [intOf]; omega
                · have F := Lib.hid (BADR.out (by rw [ST.out, if_neg hmax]))
                  have q5 : (1000000000 : Int) < (v : Int) := by omega
                  go_wp2_with fail
                  go_ret2
                  exact NsRes.no F.out HOW.out hb
        · have zs : z = s.size - i := by omega
          have ZR : Hid (zrs (s.data.toList.drop i) = z) := zrs_is (by rw [LEN.out]; omega) hzs.out (fun h => by rw [LEN.out] at h; omega)
          have F := Lib.hid (BADR.out (by rw [nmStep, if_pos]; rw [ZR.out, LEN.out]; omega))
          have q1 : ¬ (p : Int) < (s.size : Int) := by omega
          by_cases h29 : 29 < z
          · have q2 : (29 : Int) < (z : Int) := by omega
            go_wp2_with fail
            go_ret2
            exact NsRes.no F.out HOW.out hb
          · have q2 : ¬ (29 : Int) < (z : Int) := by omega
            have q3 : (s.size : Int) < (i : Int) + 2 * (z : Int) + 1 := by omega
            go_wp2_with fail
            go_ret2
            exact NsRes.no F.out HOW.out hb
    · obtain rfl : i = s.size := by omega
      have F := Lib.hid (nm_yes (s := s) (o := o) (by
        rw [RR.out, hV.out, List.drop_eq_nil_of_le (by rw [HLN.out]; exact Nat.le_refl _), nmV_nil]; simp [Option.map]))
      go_wp2_with fail
      go_ret2
      exact NsRes.yes F.out HOW.out hb
end Go.Proofs.YtogefmkplkddoaaDoor
