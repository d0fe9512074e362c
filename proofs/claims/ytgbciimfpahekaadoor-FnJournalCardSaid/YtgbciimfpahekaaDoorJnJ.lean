/- Journals: the program's. -/
import Derived.Test.YtgbciimfpahekaaDoorJnB
import Derived.Test.YtgbciimfpahekaaDoorJnS
namespace Go.Proofs.YtgbciimfpahekaaDoor
open Go.RowKit Go.Shelf

theorem Bld.fresh {B b : Nat} {w : World} (hB : B ≤ b) (h : Blk w b 43 #[.pointer none, .slice none 0 0]) : Bld B b [] w :=
  .inl ⟨hB, .slice none 0 0, h, ⟨rfl, .inl ⟨rfl, rfl⟩⟩, by simp [Value.ownBlock]⟩
theorem Bld.ext {B b : Nat} {l : List UInt8} {w w' : World} (h : Bld B b l w) (hb : Below w.heap.size w w') : Bld B b l w' := by
  have key : ∀ p, Lib.BuilderAtF 43 5 B b p (Lib.byteCells l) w → Lib.BuilderAtF 43 5 B b p (Lib.byteCells l) w' := by
    rintro p ⟨hB, v, hh, ho, hne⟩
    have ext : ∀ {g : Nat} {o : Obj}, w.heap[g]? = some o → w'.heap[g]? = some o := fun {g o} hg => by
      refine (hb.block g ?_).trans hg
      by_cases hlt : g < w.heap.size
      · exact hlt
      · rw [Array.getElem?_eq_none (by omega)] at hg; cases hg
    refine ⟨hB, v, ext hh, ⟨ho.1, ?_⟩, hne⟩
    rcases ho.2 with h | ⟨g, cap, cur, fz, h1, h2, h3, h4⟩
    · exact .inl h
    · exact .inr ⟨g, cap, cur, fz, h1, h2, ext h3, h4⟩
  rcases h with h | h
  · exact .inl (key _ h)
  · exact .inr (key _ h)
theorem bLen_any (B b : Nat) (l : List UInt8) (w : World) (h : Bld B b l w) : Calls Tryd.prog 21 #[.pointer (some ⟨b, 0, none⟩)] w fun e w' => e = .returned (.int .i64 l.length) ∧ w = w' :=
  (Tryd.Builder_Len_f B b _ w h).mono fun _ _ ⟨h1, h2⟩ => ⟨by rw [h1, Lib.byteCells_length], h2.symm⟩
theorem bStr_any (B b : Nat) (l : List UInt8) (w : World) (h : Bld B b l w) (hB : B ≤ w.heap.size) : Calls Tryd.prog 25 #[.pointer (some ⟨b, 0, none⟩)] w fun e w' => e = .returned (.string (mkB l)) ∧ Below B w w' :=
  (Tryd.Builder_String_any_f B b l w h hB).mono fun _ _ ⟨h1, _, h3⟩ => ⟨h1, h3⟩
theorem cont_any (s : ByteArray) (w : World) : Calls Tryd.prog 20 #[.string s, .string ⟨#[10]⟩] w fun e w' => e = .returned (.bool (decide (10 ∈ bl s))) ∧ w = w' :=
  (Tryd.strings_Contains_one s 10 w).mono fun _ _ ⟨h1, h2⟩ => ⟨by
    rw [h1]
    congr 2
    rw [decide_eq_decide, show s.data.toList = bl s from rfl, idx_fnd]
    by_cases h : fnd 10 (bl s) < (bl s).length
    · rw [if_pos h]
      exact ⟨fun _ => by have := List.getElem_mem h; rwa [fnd_at h] at this, fun _ => by omega⟩
    · rw [if_neg h]
      exact ⟨fun h' => absurd h' (by decide), fun hm => by
        obtain ⟨i, hi, e⟩ := List.getElem_of_mem hm
        exact absurd e (fnd_not (by have := fnd_le 10 (bl s); omega) hi)⟩, h2.symm⟩
theorem jadd2 (D r : List UInt8) : (mkB D ++ ByteArray.mk #[32] ++ mkB r ++ ByteArray.mk #[10]) = mkB (D ++ (32 :: (r ++ [10]))) := by
  apply ByteArray.ext
  simp [mkB]
set_option maxRecDepth 100000 in
set_option maxHeartbeats 2000000 in
theorem journalOf_any (A : Option Addr) (c : Nat) (rows : List ByteArray) (w : World) (h : Rd w A (strs rows)) (hn : rows.length ≤ 1048576) (hr : ∀ r ∈ rows, r.size ≤ 1000000000) (ht : TabOk w) :
    Calls Tryd.prog 9 #[.slice A rows.length c] w fun e w' => e = .returned (.tuple #[.string (jV rows), .bool (jOk rows)]) ∧ Below w.heap.size w w' := by
  have HX := Lib.hid (fun V (hb : Below w.heap.size w V) => (h.ext hb).str)
  have HT := Lib.hid (fun V (hb : Below w.heap.size w V) => ht.ext hb)
  have HS := Lib.hid hr
  have JM : Hid (∀ k, (jl 0 ((rows.map bl).take k)).length ≤ (jl 0 (rows.map bl)).length) := fun k => jl_mono 0 _ k
  have CK : Hid (∀ k, ckL 0 ((rows.map bl).take k) < 65129) := fun k => ckL_lt _ _ (by decide)
  have CS : Hid (∀ k (hk : k < rows.length), ckL 0 ((rows.map bl).take (k + 1)) = chk (ckL 0 ((rows.map bl).take k)) (bl rows[k])) := fun k hk => by
    rw [ckL_take 0 _ k (by simpa using hk)]; simp
  have JS : Hid (∀ k (hk : k < rows.length), jl 0 ((rows.map bl).take k) ++ bl (mkB (Lib.itoa (ckL 0 ((rows.map bl).take (k + 1)) : Nat)) ++ ByteArray.mk #[32] ++ rows[k] ++ ByteArray.mk #[10]) = jl 0 ((rows.map bl).take (k + 1))) := fun k hk => by
    rw [jl_take 0 _ k (by simpa using hk), ckL_take 0 _ k (by simpa using hk), itoa_nat]
    have := jadd2 (Lib.decDigits (chk (ckL 0 ((rows.map bl).take k)) (bl rows[k]))) (bl rows[k])
    rw [mkB_bl] at this
    simp only [List.getElem_map]
    rw [this, bl_mkB]; rfl
  have JL : Hid (∀ k (hk : k < rows.length), rows[k].size ≤ (jl 0 (rows.map bl)).length) := fun k hk => by
    have h1 := jl_mono 0 (rows.map bl) (k + 1)
    have hkm : k < (rows.map bl).length := by simpa using hk
    rw [jl_take 0 _ k hkm, List.length_append] at h1
    have h2 := (jLine_len (chk (ckL 0 ((rows.map bl).take k)) (rows.map bl)[k]) (rows.map bl)[k] (chk_lt _ _ (ckL_lt _ _ (by decide)))).1
    have e : ((rows.map bl)[k]).length = rows[k].size := by simp [bl_len]
    omega
  have RES : Hid (∀ V, Below w.heap.size w V → jOk rows = false → (Ending.returned (.tuple #[.string ⟨#[]⟩, .bool false]) = .returned (.tuple #[.string (jV rows), .bool (jOk rows)]) ∧ Below w.heap.size w V)) := fun V hV hf => by
    rw [jV_no hf, hf]; exact ⟨rfl, hV⟩
  have YES : Hid (∀ V, Below w.heap.size w V → jOk rows = true → (Ending.returned (.tuple #[.string (mkB (jl 0 (rows.map bl))), .bool true]) = .returned (.tuple #[.string (jV rows), .bool (jOk rows)]) ∧ Below w.heap.size w V)) := fun V hV hf => by
    rw [jV_yes hf, hf]; exact ⟨rfl, hV⟩
  obtain ⟨n, hnL⟩ : ∃ n, rows.length = n := ⟨_, rfl⟩
  have HNL := Lib.hid hnL
  rw [hnL] at hn ⊢
  clear h hr hnL ht
  obtain ⟨w0, hw0⟩ : ∃ w0, w.alloc (.cells #[.pointer none, .slice none 0 0] 43) = w0 := ⟨_, rfl⟩
  have BD : Bld w.heap.size w.heap.size [] w0 := by rw [← hw0]; exact Bld.fresh (Nat.le_refl _) (Blk.made w _ _)
  have B0 : Below w.heap.size w w0 := by rw [← hw0]; exact Ext.more (Ext.refl _) _
  have HW0 := Lib.hid hw0
  clear hw0
  go_enter Tryd.func9, Tryd.ntmps9
  go_wp2_with fail
  try simp only [HW0.out]
  go_loopw [5, 7, 11] (fun cv _ iv wr => ∃ (k : Nat) (l : List UInt8), k ≤ n ∧ iv = .int .i64 k ∧ cv = .int .i64 ((ckL 0 ((rows.map bl).take k) : Nat) : Int) ∧ Hid (l = jl 0 ((rows.map bl).take k) ∧ (∀ i (h : i < rows.length), i < k → 10 ∉ bl rows[i]) ∧ Bld w.heap.size w.heap.size l wr) ∧ l.length ≤ 20000 ∧ Below w.heap.size w wr) (fun _ _ iv _ => n - (intOf iv).toNat)
  case atStart => exact ⟨0, [], Nat.zero_le _, rfl, rfl, ⟨by simp [jl], (fun _ _ h => absurd h (Nat.not_lt_zero _)), BD⟩, by simp, B0⟩
  case round =>
    obtain ⟨k, l, hk, rfl, rfl, hI, hl, hb⟩ := hrel
    clear BD B0
    have hz := hb.size
    have BL := Lib.hid (bLen_any _ _ l wr hI.out.2.2)
    by_cases hlt : k < n
    · obtain ⟨g, rfl, hg, hc⟩ := HX.out wr hb (by have := HNL.out; omega)
      have c1 := hc k (by have := HNL.out; omega)
      have hkr : k < rows.length := by have := HNL.out; omega
      have J2 := Lib.hid (JS.out k hkr)
      have C2 := Lib.hid (CS.out k hkr)
      have hrs := HS.out rows[k] (List.getElem_mem _)
      have ck1 := CK.out k
      have ck2 := CK.out (k + 1)
      have RL : Hid (rows[k].size ≤ (jl 0 (rows.map bl)).length) := JL.out k hkr
      have RM : Hid (rows[k] ∈ rows) := List.getElem_mem _
      have HK : Hid (∀ r, rows[k] = r → 10 ∉ bl r → ∀ i (h : i < rows.length), i < k + 1 → 10 ∉ bl rows[i]) := fun r hr h10 i hi hik => by
        rcases Nat.lt_succ_iff_lt_or_eq.1 hik with h1 | rfl
        · exact hI.out.2.1 i hi h1
        · rw [hr]; exact h10
      clear hc
      obtain ⟨r, hrr⟩ : ∃ r, rows[k]'hkr = r := ⟨_, rfl⟩
      have HKR := Lib.hid (HK.out r hrr)
      rw [hrr] at c1 J2 C2 hrs RL RM
      have F1 : Hid (6000 < r.size → jOk rows = false) := fun h => jOk_long (by have := RL.out; omega)
      have F2 : Hid (10 ∈ bl r → jOk rows = false) := fun h => jOk_nl RM.out h
      have F3 : Hid (6000 < l.length → jOk rows = false) := fun h => jOk_long (by have h1 := JM.out k; rw [← hI.out.1] at h1; omega)
      obtain ⟨a, ha⟩ : ∃ a, ckL 0 ((rows.map bl).take k) = a := ⟨_, rfl⟩
      obtain ⟨b, hbb⟩ : ∃ b, ckL 0 ((rows.map bl).take (k + 1)) = b := ⟨_, rfl⟩
      have BB := Lib.hid hbb
      rw [ha] at ck1 C2 ⊢
      rw [hbb] at ck2 J2 C2
      rw [← hI.out.1] at J2
      clear hrr ha hbb HK RL RM
      have i0 : (0 : Int) ≤ (k : Int) := by omega
      have i1 : (k : Int) < (n : Int) := by omega
      by_cases h1 : 6000 < r.size
      · have F := Lib.hid (F1.out h1)
        have q1 : (6000 : Int) < (r.size : Int) := by omega
        go_wp2_with fail
        go_ret2
        exact RES.out _ hb F.out
      have q1 : ¬ (6000 : Int) < (r.size : Int) := by omega
      have CN := Lib.hid (cont_any r wr)
      by_cases h2 : 10 ∈ bl r
      · have F := Lib.hid (F2.out h2)
        rw [decide_eq_true h2] at CN
        clear h2
        go_wp2_with fail
        refine CN.out.mono ?_
        rintro e w' ⟨rfl, rfl⟩
        go_wp2_with fail
        go_ret2
        exact RES.out _ hb F.out
      have HN10 := Lib.hid (HKR.out h2)
      rw [decide_eq_false h2] at CN
      clear h2 HKR F2 F1
      by_cases h3 : 6000 < l.length
      · have F := Lib.hid (F3.out h3)
        have q2 : (6000 : Int) < (l.length : Int) := by omega
        go_wp2_with fail
        refine CN.out.mono ?_
        rintro e w' ⟨rfl, rfl⟩
        go_wp2_with fail
        refine BL.out.mono ?_
        rintro e w' ⟨rfl, rfl⟩
        go_wp2_with fail
        go_ret2
        exact RES.out _ hb F.out
      have q2 : ¬ (6000 : Int) < (l.length : Int) := by omega
      have HC := Lib.hid (check_any a r wr ck1 (by omega))
      rw [← C2.out] at HC
      have DC := Lib.hid (decimal_any (b : Int) wr (by omega) (by omega) (HT.out wr hb))
      have hD : (mkB (Lib.itoa (b : Int))).size ≤ 21 := by rw [mkB_size]; exact itoa_len _ (by omega) (by omega)
      have eD : ByteArray.mk (Lib.itoa (b : Int)).toArray = mkB (Lib.itoa (b : Int)) := rfl
      rw [eD] at DC
      obtain ⟨D, hDD⟩ : ∃ D, mkB (Lib.itoa (b : Int)) = D := ⟨_, rfl⟩
      rw [hDD] at DC hD J2
      have t1 : ¬ 9223372036854775807 < D.size + 1 := by omega
      have t2 : ¬ 9223372036854775807 < D.size + 1 + r.size := by omega
      have t3 : ¬ 9223372036854775807 < D.size + 1 + r.size + 1 := by omega
      clear hDD eD C2 F3
      go_wp2_with fail
      refine CN.out.mono ?_
      rintro e w' ⟨rfl, rfl⟩
      go_wp2_with fail
      refine BL.out.mono ?_
      rintro e w' ⟨rfl, rfl⟩
      go_wp2_with fail
      refine HC.out.mono ?_
      rintro e w' ⟨rfl, rfl⟩
      go_wp2_with fail
      refine DC.out.mono ?_
      rintro e w3 ⟨rfl, hb3⟩
      have B3 := Ext.then_ hb hb3
      have BD3 := Lib.hid (hI.out.2.2.ext hb3)
      have hz3 := B3.size
      have HNI := Lib.hid hI.out.2.1
      obtain ⟨X, hX⟩ : ∃ X, D ++ ByteArray.mk #[32] ++ r ++ ByteArray.mk #[10] = X := ⟨_, rfl⟩
      have hXs : X.size ≤ 10000 := by
        rw [← hX, ByteArray.size_append, ByteArray.size_append, ByteArray.size_append]
        show D.size + 1 + r.size + 1 ≤ 10000
        omega
      rw [hX] at J2
      have WS := Lib.hid (writeString_any _ _ l X w3 BD3.out (by omega) (by omega))
      have LX : Hid ((l ++ bl X).length = l.length + X.size) := by rw [Hid, List.length_append, bl_len]
      clear BD3 hI DC HC BL CN
      go_wp2_with fail
      refine WS.out.mono ?_
      rintro e w4 ⟨rfl, BD4, hb4⟩
      have B4 : Below w.heap.size w w4 := B3.trans hb4
      have NX : Hid (l ++ bl X = jl 0 ((rows.map bl).take (k + 1)) ∧ (∀ i (h : i < rows.length), i < k + 1 → 10 ∉ bl rows[i]) ∧ Bld w.heap.size w.heap.size (l ++ bl X) w4) := ⟨J2.out, HN10.out, BD4⟩
      clear BD4 J2 HN10 HNI hb4 hb3 hX
      go_wp2_with fail
      go_roundw
      case rel => exact ⟨k + 1, l ++ bl X, by omega, by go_num, by rw [BB.out], NX.out, by rw [LX.out]; omega, B4⟩
      case measure => simp [intOf]; omega
    · obtain rfl : k = n := by omega
      have AL : Hid (∀ r ∈ rows, 10 ∉ bl r) := fun r hr => by
        obtain ⟨i, hi, rfl⟩ := List.getElem_of_mem hr
        exact hI.out.2.1 i hi (by have := HNL.out; omega)
      have e : Hid (l = jl 0 (rows.map bl)) := by
        rw [Hid, hI.out.1, List.take_of_length_le (by rw [List.length_map]; have := HNL.out; omega)]
      by_cases h3 : 6000 < l.length
      · have F : Hid (jOk rows = false) := jOk_long (by rw [← e.out]; exact h3)
        have q2 : (6000 : Int) < (l.length : Int) := by omega
        clear hI
        go_wp2_with fail
        refine BL.out.mono ?_
        rintro e w' ⟨rfl, rfl⟩
        go_wp2_with fail
        go_ret2
        exact RES.out _ hb F.out
      have F : Hid (jOk rows = true) := jOk_yes AL.out (by rw [← e.out]; omega)
      have q2 : ¬ (6000 : Int) < (l.length : Int) := by omega
      have ST := Lib.hid (bStr_any _ _ l wr hI.out.2.2 hz)
      rw [e.out] at ST
      clear hI
      go_wp2_with fail
      refine BL.out.mono ?_
      rintro e w' ⟨rfl, rfl⟩
      go_wp2_with fail
      refine ST.out.mono ?_
      rintro e w5 ⟨rfl, hb5⟩
      have B5 : Below w.heap.size w w5 := hb.trans hb5
      go_wp2_with fail
      go_ret2
      exact YES.out _ B5 F.out
end Go.Proofs.YtgbciimfpahekaaDoor
