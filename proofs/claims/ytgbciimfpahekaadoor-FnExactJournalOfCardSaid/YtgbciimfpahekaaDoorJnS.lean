/- Journals: the reference's. -/
import Derived.Test.YtgbciimfpahekaaDoorJnC
import Derived.Test.YtgbciimfpahekaaDoorJnD
import Derived.Test.YtgbciimfpahekaaDoorJnW
import Derived.Test.YtgbciimfpahekaaDoorStr
import Derived.Deep.RegionHeld3
namespace Go.Proofs.YtgbciimfpahekaaDoor
open Go.RowKit

theorem itoa_nat (n : Nat) : Lib.itoa (n : Int) = Lib.decDigits n := Lib.itoa_nonneg n
theorem cut_last (t : List UInt8) (b : UInt8) : ∃ m l, (cutL b t).length = m + 1 ∧ (cutL b t)[m]? = some l ∧ (cutL b t).getLast (cutL_ne b t) = l ∧ (cutL b t).dropLast.length = m := by
  have hne := cutL_ne b t
  have hl : 0 < (cutL b t).length := List.length_pos_iff.2 hne
  refine ⟨(cutL b t).length - 1, (cutL b t).getLast hne, by omega, ?_, rfl, by simp⟩
  rw [List.getLast_eq_getElem, List.getElem?_eq_getElem (by omega)]
theorem lnL_at (t : List UInt8) (i : Nat) (h : i < (lnL t).length) : (cutL 10 t)[i]? = some (lnL t)[i] := by
  unfold lnL at h ⊢
  rw [List.getElem_dropLast, List.getElem?_eq_getElem]
set_option maxHeartbeats 1000000 in
theorem linesS_any (s : ByteArray) (w : World) (hs : s.size ≤ 1000000) :
    Calls Tryd.prog 26 #[.string s] w fun e w' => ∃ g c, e = .returned (.tuple #[.slice (some ⟨g, 0, none⟩) (lnL (bl s)).length c, .string (mkB ((cutL 10 (bl s)).getLast (cutL_ne 10 (bl s))))]) ∧
      g < w'.heap.size ∧ (∀ i (h : i < (lnL (bl s)).length), w'.cell? ⟨g, i, none⟩ = some (.string (mkB (lnL (bl s))[i]))) ∧ Below w.heap.size w w' := by
  have C := Lib.hid (cutS_any s 10 w hs)
  obtain ⟨m, l, h1, h2, h3, h4⟩ := cut_last (bl s) 10
  have H4 : Hid ((lnL (bl s)).length = m) := h4
  have H3 := Lib.hid h3
  have CE := Lib.hid (fun i h => lnL_at (bl s) i h)
  rw [h1] at C
  go_enter Tryd.func26, Tryd.ntmps26
  go_wp2_with fail
  refine (C.out).mono ?_
  rintro e w1 ⟨g, c, rfl, ho, hb⟩
  have CA : Hid (∀ i l, (cutL 10 (bl s))[i]? = some l → w1.cell? ⟨g, i, none⟩ = some (.string (mkB l))) := fun i l hi => by
    have hil := (List.getElem?_eq_some_iff.1 hi).1
    rw [ho.cellAt i (by omega), txs_at _ _ hil]
    rw [List.getElem?_eq_getElem hil] at hi
    rw [Option.some.inj hi]
  have gl := (ho.lt g rfl).2
  have c1 := CA.out m l h2
  have hc : m + 1 ≤ c ∧ m + 1 ≤ maxLen := by
    rcases ho.2 with ⟨h, _⟩ | ⟨g', cap', cur, h, _, _, hc, hm, _⟩
    · simp at h
    · simp only [Value.slice.injEq] at h
      obtain ⟨-, -, rfl⟩ := h
      exact ⟨hc, Nat.le_trans hc hm⟩
  obtain ⟨hc1, hc2⟩ := hc
  unfold maxLen at hc2
  have e1 : ((m + 1 : Nat) : Int) - 1 = (m : Int) := by omega
  have e2 : (m : Int) + 1 - 1 = (m : Int) := by omega
  have i1 : (m : Int) < ((m + 1 : Nat) : Int) := by omega
  have i2 : (m : Int) < (m : Int) + 1 := by omega
  have hcm : m ≤ c := by omega
  have RD : Hid (∀ i (h : i < (lnL (bl s)).length), w1.cell? ⟨g, i, none⟩ = some (.string (mkB (lnL (bl s))[i]))) := fun i h => CA.out i _ (CE.out i h)
  clear ho h1 h2 h3 h4
  go_wp2_with fail
  go_region
  all_goals
    go_wp2_with fail
    go_ret2
    exact ⟨g, c, by rw [H4.out, H3.out]; rfl, gl, RD.out, Ext.draw hb⟩
theorem jadd (O D r : List UInt8) : (mkB O) ++ (mkB D ++ ByteArray.mk #[32] ++ mkB r ++ ByteArray.mk #[10]) = mkB (O ++ (D ++ (32 :: (r ++ [10])))) := by
  apply ByteArray.ext
  simp [mkB]
set_option maxRecDepth 100000 in
set_option maxHeartbeats 1000000 in
theorem journalS_any (A : Option Addr) (c : Nat) (rows : List ByteArray) (w : World) (h : Rd w A (strs rows)) (hn : rows.length ≤ 1000000) (hj : (jl 0 (rows.map bl)).length ≤ 1000000000) (hr : ∀ r ∈ rows, r.size ≤ 1000000000) :
    Calls Tryd.prog 19 #[.slice A rows.length c] w fun e w' => e = .returned (.string (mkB (jl 0 (rows.map bl)))) ∧ Below w.heap.size w w' := by
  have HX := Lib.hid (fun V (hb : Below w.heap.size w V) => (h.ext hb).str)
  have HJ : Hid (∀ k, (jl 0 ((rows.map bl).take k)).length ≤ 1000000000) := fun k => Nat.le_trans (jl_mono 0 _ k) hj
  have HS := Lib.hid hr
  have CK : Hid (∀ k, ckL 0 ((rows.map bl).take k) < 65129) := fun k => ckL_lt _ _ (by decide)
  have CS : Hid (∀ k (hk : k < rows.length), ckL 0 ((rows.map bl).take (k + 1)) = chk (ckL 0 ((rows.map bl).take k)) (bl rows[k])) := fun k hk => by
    rw [ckL_take 0 _ k (by simpa using hk)]; simp
  have JS : Hid (∀ k (hk : k < rows.length), mkB (jl 0 ((rows.map bl).take k)) ++ (mkB (Lib.itoa (ckL 0 ((rows.map bl).take (k + 1)) : Nat)) ++ ByteArray.mk #[32] ++ rows[k] ++ ByteArray.mk #[10]) = mkB (jl 0 ((rows.map bl).take (k + 1)))) := fun k hk => by
    rw [jl_take 0 _ k (by simpa using hk), ckL_take 0 _ k (by simpa using hk), itoa_nat]
    have := jadd (jl 0 ((rows.map bl).take k)) (Lib.decDigits (chk (ckL 0 ((rows.map bl).take k)) (bl rows[k]))) (bl rows[k])
    rw [mkB_bl] at this
    simpa [jLine] using this
  obtain ⟨n, hnL⟩ : ∃ n, rows.length = n := ⟨_, rfl⟩
  have HNL := Lib.hid hnL
  rw [hnL] at hn ⊢
  clear h hj hr hnL
  go_enter Tryd.func19, Tryd.ntmps19
  go_wp2_with fail
  go_loopw [3, 4, 5] (fun ov nv iv wr => ∃ k : Nat, k ≤ n ∧ iv = .int .i64 k ∧ ov = .string (mkB (jl 0 ((rows.map bl).take k))) ∧ nv = .int .i64 ((ckL 0 ((rows.map bl).take k) : Nat) : Int) ∧ Below w.heap.size w wr) (fun _ _ iv _ => n - (intOf iv).toNat)
  case atStart => exact ⟨0, Nat.zero_le _, rfl, by simp [jl, mkB], rfl, Ext.refl _⟩
  case round =>
    obtain ⟨k, hk, rfl, rfl, rfl, hb⟩ := hrel
    by_cases hlt : k < n
    · obtain ⟨g, rfl, hg, hc⟩ := HX.out wr hb (by have := HNL.out; omega)
      have c1 := hc k (by have := HNL.out; omega)
      have hkr : k < rows.length := by have := HNL.out; omega
      have J2 := Lib.hid (JS.out k hkr)
      have C2 := Lib.hid (CS.out k hkr)
      have hrs := HS.out rows[k] (List.getElem_mem _)
      have ck1 := CK.out k
      have ck2 := CK.out (k + 1)
      have hO : (mkB (jl 0 ((rows.map bl).take k))).size ≤ 1000000000 := by rw [mkB_size]; exact HJ.out k
      clear hc
      obtain ⟨r, hrr⟩ : ∃ r, rows[k]'hkr = r := ⟨_, rfl⟩
      rw [hrr] at c1 J2 C2 hrs
      obtain ⟨a, ha⟩ : ∃ a, ckL 0 ((rows.map bl).take k) = a := ⟨_, rfl⟩
      obtain ⟨b, hbb⟩ : ∃ b, ckL 0 ((rows.map bl).take (k + 1)) = b := ⟨_, rfl⟩
      obtain ⟨O, hOO⟩ : ∃ O, mkB (jl 0 ((rows.map bl).take k)) = O := ⟨_, rfl⟩
      have BB := Lib.hid hbb
      rw [ha] at ck1 C2 ⊢
      rw [hbb] at ck2 J2 C2
      rw [hOO] at J2 hO ⊢
      have HC := Lib.hid (checkS_any a r wr ck1 (by omega))
      rw [← C2.out] at HC
      have DC := Lib.hid (fun V => decS_any (b : Int) V (by omega) (by omega))
      have hD : (mkB (Lib.itoa (b : Int))).size ≤ 21 := by rw [mkB_size]; exact itoa_len _ (by omega) (by omega)
      have eD : ByteArray.mk (Lib.itoa (b : Int)).toArray = mkB (Lib.itoa (b : Int)) := rfl
      rw [eD] at DC
      obtain ⟨D, hDD⟩ : ∃ D, mkB (Lib.itoa (b : Int)) = D := ⟨_, rfl⟩
      rw [hDD] at DC hD J2
      clear hrr ha hbb hOO hDD eD C2
      have i0 : (0 : Int) ≤ (k : Int) := by omega
      have i1 : (k : Int) < (n : Int) := by omega
      have t1 : ¬ 9223372036854775807 < D.size + 1 := by omega
      have t2 : ¬ 9223372036854775807 < D.size + 1 + r.size := by omega
      have t3 : ¬ 9223372036854775807 < D.size + 1 + r.size + 1 := by omega
      have t4 : ¬ 9223372036854775807 < O.size + (D.size + 1 + r.size + 1) := by omega
      go_wp2_with fail
      refine HC.out.mono ?_
      rintro e w' ⟨rfl, rfl⟩
      go_wp2_with fail
      go_region_held3 (fun w' => w'.cell? ⟨g, k, none⟩ = some (.string r))
        (first | ((go_split_ands; exact (hb'.cell (p := ⟨_, _, none⟩) (by first | omega | (simp; omega) | simp)).trans (by assumption))) | go_keep)
        (first
          | (go_at_call 28; refine (DC.out _).mono ?_; rintro e w4 ⟨rfl, hb'⟩))
      have B4 := Ext.then_ hb (Ext.undraw hb')
      go_wp2_with fail
      go_roundw
      case rel => exact ⟨k + 1, by omega, by go_num, by rw [← J2.out], by rw [BB.out], B4⟩
      case measure => simp [intOf]; omega
    · obtain rfl : k = n := by omega
      have e : Hid ((rows.map bl).take k = rows.map bl) := by rw [Hid]; exact List.take_of_length_le (by rw [List.length_map]; have := HNL.out; omega)
      rw [e.out]
      go_wp2_with fail
      go_ret
      exact ⟨rfl, hb⟩
/-- Whether lines have a journal, and the journal. -/
def jOk (rows : List ByteArray) : Bool := decide ((∀ r ∈ rows, 10 ∉ bl r) ∧ (jl 0 (rows.map bl)).length ≤ 6000)
def jV (rows : List ByteArray) : ByteArray := if jOk rows then mkB (jl 0 (rows.map bl)) else mkB []
theorem jV_no {rows : List ByteArray} (h : jOk rows = false) : jV rows = mkB [] := by rw [jV, h]; rfl
theorem jV_yes {rows : List ByteArray} (h : jOk rows = true) : jV rows = mkB (jl 0 (rows.map bl)) := by rw [jV, h]; rfl
theorem jOk_yes {rows : List ByteArray} (h : ∀ r ∈ rows, 10 ∉ bl r) (h2 : (jl 0 (rows.map bl)).length ≤ 6000) : jOk rows = true := by rw [jOk, decide_eq_true_iff]; exact ⟨h, h2⟩
theorem jOk_long {rows : List ByteArray} (h2 : 6000 < (jl 0 (rows.map bl)).length) : jOk rows = false := by
  rw [jOk, decide_eq_false_iff_not]; exact fun h => absurd h.2 (by omega)
theorem jOk_nl {rows : List ByteArray} {r : ByteArray} (hr : r ∈ rows) (h : 10 ∈ bl r) : jOk rows = false := by
  rw [jOk, decide_eq_false_iff_not]; exact fun h' => h'.1 r hr h
/-- The lines' lengths, and three for each. -/
def tot3 (rows : List ByteArray) (k : Nat) : Nat := ((rows.take k).map fun r => r.size + 3).sum
theorem tot3_succ (rows : List ByteArray) (k : Nat) (h : k < rows.length) : tot3 rows (k + 1) = tot3 rows k + (rows[k].size + 3) := by
  unfold tot3
  rw [List.take_add_one, List.getElem?_eq_getElem h, List.map_append, List.sum_append]
  rfl
theorem jLine_len (m : Nat) (l : List UInt8) (hm : m < 65129) : l.length + 3 ≤ (jLine m l).length ∧ (jLine m l).length ≤ l.length + 7 := by
  have h1 := dec_len_pos m
  have h2 := dec_len m (by omega)
  simp only [jLine, List.length_append, List.length_cons, List.length_nil]
  omega
theorem tot3_jl (rows : List ByteArray) : ∀ k, k ≤ rows.length → tot3 rows k ≤ (jl 0 ((rows.map bl).take k)).length ∧ (jl 0 ((rows.map bl).take k)).length ≤ tot3 rows k + 4 * k
  | 0, _ => by simp [tot3, jl]
  | k + 1, h => by
    have ih := tot3_jl rows k (by omega)
    have hk : k < (rows.map bl).length := by rw [List.length_map]; omega
    have hl := jLine_len (chk (ckL 0 ((rows.map bl).take k)) (rows.map bl)[k]) (rows.map bl)[k] (chk_lt _ _ (ckL_lt _ _ (by decide)))
    rw [jl_take 0 _ k hk, tot3_succ rows k (by omega), List.length_append]
    have e : ((rows.map bl)[k]).length = rows[k].size := by simp [bl_len]
    omega
theorem mem_of_at (s : ByteArray) (j : Nat) (h : j < s.size) (b : UInt8) (e : s[j] = b) : b ∈ bl s := by
  rw [← e]; exact List.getElem_mem (l := bl s) h
theorem not_mem_of (s : ByteArray) (b : UInt8) (h : ∀ j (h : j < s.size), s[j] ≠ b) : b ∉ bl s := fun hm => by
  obtain ⟨j, hj, e⟩ := List.getElem_of_mem hm
  exact h j hj e
set_option maxRecDepth 100000 in
set_option maxHeartbeats 1000000 in
theorem journalOfS_any (A : Option Addr) (c : Nat) (rows : List ByteArray) (w : World) (h : Rd w A (strs rows)) (hn : rows.length ≤ 1048576) (hr : ∀ r ∈ rows, r.size ≤ 1000000000) :
    Calls Tryd.prog 7 #[.slice A rows.length c] w fun e w' => e = .returned (.tuple #[.string (jV rows), .bool (jOk rows)]) ∧ Below w.heap.size w w' := by
  have HX := Lib.hid h.str
  have HS := Lib.hid hr
  have T3 := Lib.hid (fun k h => tot3_succ rows k h)
  have TJ := Lib.hid (tot3_jl rows)
  have JM : Hid (∀ k, (jl 0 ((rows.map bl).take k)).length ≤ (jl 0 (rows.map bl)).length) := fun k => jl_mono 0 _ k
  have RES : Hid (∀ V, Below w.heap.size w V → jOk rows = false → (Ending.returned (.tuple #[.string ⟨#[]⟩, .bool false]) = .returned (.tuple #[.string (jV rows), .bool (jOk rows)]) ∧ Below w.heap.size w V)) := fun V hV hf => by
    rw [jV_no hf, hf]; exact ⟨rfl, hV⟩
  have TA : Hid (rows.take rows.length = rows ∧ (rows.map bl).take rows.length = rows.map bl) := ⟨List.take_length, List.take_of_length_le (by simp)⟩
  have JC := Lib.hid (fun V (hV : Rd V A (strs rows)) hn hj => journalS_any A c rows V hV hn hj hr)
  obtain ⟨n, hnL⟩ : ∃ n, rows.length = n := ⟨_, rfl⟩
  have HNL := Lib.hid hnL
  have HH := Lib.hid h
  rw [hnL] at hn JC ⊢
  clear h hr hnL
  go_enter Tryd.func7, Tryd.ntmps7
  go_wp2_with fail
  go_loopw [4, 5, 6] (fun tv iv _ wr => ∃ k m : Nat, k ≤ n ∧ iv = .int .i64 k ∧ tv = .int .i64 m ∧ Hid (m = tot3 rows k ∧ ∀ i (h : i < rows.length), i < k → 10 ∉ bl rows[i]) ∧ m ≤ 6000 ∧ ∃ j, wr = w.drewN j) (fun _ iv _ _ => n - (intOf iv).toNat)
  case atStart => exact ⟨0, 0, Nat.zero_le _, rfl, rfl, ⟨by simp [tot3], fun _ _ h => absurd h (Nat.not_lt_zero _)⟩, by omega, 0, rfl⟩
  case round =>
    obtain ⟨k, m, hk, rfl, rfl, hI, hm, j, rfl⟩ := hrel
    by_cases hlt : k < n
    · obtain ⟨g, rfl, hg, hc⟩ := HX.out (by have := HNL.out; omega)
      have c1 := hc k (by have := HNL.out; omega)
      have hkr : k < rows.length := by have := HNL.out; omega
      have T := Lib.hid (T3.out k hkr)
      have hrs := HS.out rows[k] (List.getElem_mem _)
      have RM : Hid (rows[k] ∈ rows) := List.getElem_mem _
      have HK : Hid (∀ r, rows[k] = r → 10 ∉ bl r → ∀ i (h : i < rows.length), i < k + 1 → 10 ∉ bl rows[i]) := fun r hr h10 i hi hik => by
        rcases Nat.lt_succ_iff_lt_or_eq.1 hik with h1 | rfl
        · exact hI.out.2 i hi h1
        · rw [hr]; exact h10
      clear hc
      obtain ⟨r, hrr⟩ : ∃ r, rows[k]'hkr = r := ⟨_, rfl⟩
      have HRR := Lib.hid hrr
      rw [hrr] at c1 T hrs RM
      have M2 : Hid (m + (r.size + 3) = tot3 rows (k + 1)) := by rw [Hid, T.out, hI.out.1]
      have NL : Hid (10 ∈ bl r → jOk rows = false) := fun h => jOk_nl RM.out h
      have HKR : Hid (10 ∉ bl r → ∀ i (h : i < rows.length), i < k + 1 → 10 ∉ bl rows[i]) := HK.out r hrr
      clear hrr T RM HK hI
      have i0 : (0 : Int) ≤ (k : Int) := by omega
      have i1 : (k : Int) < (n : Int) := by omega
      by_cases hbig : 6000 < m + (r.size + 3)
      · have F : Hid (jOk rows = false) := jOk_long (by have h1 := (TJ.out (k + 1) (by omega)).1; have h2 := JM.out (k + 1); have h3 := M2.out; omega)
        have q1 : (6000 : Int) < (m : Int) + ((r.size : Int) + 3) := by omega
        go_wp2_with fail
        go_ret2
        exact RES.out _ (Ext.drawN (Ext.refl _) _) F.out
      have q1 : ¬ (6000 : Int) < (m : Int) + ((r.size : Int) + 3) := by omega
      go_wp2_with fail
      go_loopw [6] (fun kv wi => ∃ q : Nat, q ≤ r.size ∧ kv = .int .i64 q ∧ Hid (∀ i (h : i < r.size), i < q → r[i] ≠ 10) ∧ ∃ j, wi = w.drewN j) (fun kv _ => r.size - (intOf kv).toNat)
      case atStart => exact ⟨0, Nat.zero_le _, rfl, fun _ _ h => absurd h (Nat.not_lt_zero _), j, rfl⟩
      case round =>
        obtain ⟨q, hq, rfl, hq2, j, rfl⟩ := hrel
        by_cases hql : q < r.size
        · have p0 : (0 : Int) ≤ (q : Int) := by omega
          have p1 : (q : Int) < (r.size : Int) := by omega
          by_cases h10 : r[q] = 10
          · have F := Lib.hid (NL.out (mem_of_at r q hql 10 h10))
            have hv : ((r[q].toNat : Nat) : Int) = 10 := by rw [h10]; rfl
            clear h10
            go_wp2_with fail
            go_ret2
            exact RES.out _ (Ext.drawN (Ext.refl _) _) F.out
          · have hv : (((r[q].toNat : Nat) : Int) == 10) = false := byte_ne (b := 10) h10
            have Q2 : Hid (∀ i (h : i < r.size), i < q + 1 → r[i] ≠ 10) := fun i h hi => by
              rcases Nat.lt_succ_iff_lt_or_eq.1 hi with h1 | rfl
              · exact hq2.out i h h1
              · exact h10
            clear h10
            go_wp2_with fail
            go_roundw
            case rel => exact ⟨q + 1, by omega, by go_num, Q2, _, rfl⟩
            case measure => simp [intOf]; omega
        · obtain rfl : q = r.size := by omega
          have N10 := Lib.hid (HKR.out (not_mem_of r 10 (fun i h => hq2.out i h h)))
          go_wp2_with fail
          go_roundw
          case rel => exact ⟨k + 1, m + (r.size + 3), by omega, by go_num, by go_num, ⟨M2.out, N10.out⟩, by omega, _, rfl⟩
          case measure => simp [intOf]; omega
    · obtain rfl : k = n := by omega
      have LB := (TJ.out k (by have := HNL.out; omega)).2
      have LK : k ≤ tot3 rows k := by
        have h1 := HNL.out
        have : ∀ i, i ≤ rows.length → i ≤ tot3 rows i := by
          intro i
          induction i with
          | zero => intro _; exact Nat.zero_le _
          | succ i ih => intro h; have := ih (by omega); rw [tot3_succ rows i (by omega)]; omega
        exact this k (by omega)
      have MM := hI.out.1
      have AL : Hid (∀ r ∈ rows, 10 ∉ bl r) := fun r hr => by
        obtain ⟨i, hi, rfl⟩ := List.getElem_of_mem hr
        exact hI.out.2 i hi (by have := HNL.out; omega)
      have e : (rows.map bl).take k = rows.map bl := by rw [← HNL.out]; exact TA.out.2
      rw [e] at LB
      have JJ := Lib.hid (JC.out (w.drewN j) (HH.out.drewN j) (by omega) (by omega))
      have LL : Hid ((jl 0 (rows.map bl)).length = (mkB (jl 0 (rows.map bl))).size) := (mkB_size _).symm
      have hsz : (mkB (jl 0 (rows.map bl))).size ≤ 30000 := by rw [← LL.out]; omega
      have YES : Hid ((mkB (jl 0 (rows.map bl))).size ≤ 6000 → jOk rows = true ∧ jV rows = mkB (jl 0 (rows.map bl))) := fun h => by
        have := jOk_yes AL.out (by rw [LL.out]; exact h)
        exact ⟨this, jV_yes this⟩
      have NO : Hid (6000 < (mkB (jl 0 (rows.map bl))).size → jOk rows = false) := fun h => jOk_long (by rw [LL.out]; exact h)
      clear LB LK MM e hI
      generalize mkB (jl 0 (rows.map bl)) = J at *
      go_wp2_with fail
      refine JJ.out.mono ?_
      rintro e w2 ⟨rfl, hb⟩
      have B2 : Below w.heap.size w w2 := Ext.undrawN (n := j) (by exact hb)
      by_cases hbig : J.size ≤ 6000
      · have Y := Lib.hid (YES.out hbig)
        have q1 : ¬ (6000 : Int) < (J.size : Int) := by omega
        go_wp2_with fail
        go_ret2
        exact ⟨by rw [Y.out.1, Y.out.2]; rfl, B2⟩
      · have F := Lib.hid (NO.out (by omega))
        have q1 : (6000 : Int) < (J.size : Int) := by omega
        go_wp2_with fail
        go_ret2
        exact RES.out _ B2 F.out
end Go.Proofs.YtgbciimfpahekaaDoor
