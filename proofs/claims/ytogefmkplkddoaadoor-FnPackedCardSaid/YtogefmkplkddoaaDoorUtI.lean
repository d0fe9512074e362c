/- Trees of squares: the program's codes read. -/
import Derived.Test.YtogefmkplkddoaaDoorUtP
import Derived.Test.YtogefmkplkddoaaDoorTrL
import Derived.Test.YtogefmkplkddoaaDoorMap
namespace Go.Proofs.YtogefmkplkddoaaDoor
open Go.RowKit

def byV (a : Int) : Value := .int .u8 a
def byOk (a : Int) : Prop := 0 ≤ a ∧ a < 256
theorem byteK : KeyT 5 byV byOk := keyT_of (Maps.int_keyed Tryd.underlying5) (fun a ha => ⟨.int .u8 a, by
  obtain ⟨h0, h1⟩ := ha
  have hw : (Lit.int .u8 a).wf = true := WalkArith.wf_u8 (by omega)
  simp [keyOf, mapKey, byV, Tryd.underlying5, hw]⟩) (fun a b h => by simp [byV] at h; exact h)
def lfF : Int → Option Value := putF (putF (fun _ => none) 48 (.string ⟨#[46]⟩)) 49 (.string ⟨#[35]⟩)
theorem lfF_at (c : UInt8) : (lfF (c.toNat : Int)).getD (.string ByteArray.empty) = .string ⟨(lfI c).toArray⟩ := by
  unfold lfF lfI
  by_cases h : c = 48
  · subst h; rfl
  · by_cases h2 : c = 49
    · subst h2; rfl
    · rw [if_neg h, if_neg h2, putF_other _ _ (fun e => h2 (UInt8.toNat_inj.1 (by rw [show (49 : UInt8).toNat = 49 from rfl]; omega))), putF_other _ _ (fun e => h (UInt8.toNat_inj.1 (by rw [show (48 : UInt8).toNat = 48 from rfl]; omega)))]
      rfl
theorem ex_mk (t : ByteArray) (a b : Nat) : t.extract a b = ⟨((t.data.toList.drop a).take (b - a)).toArray⟩ := by
  apply ByteArray.ext
  apply Array.ext'
  rw [← ByteArray.toList_eq]
  exact Lib.extract_toList t a b
def UqRes (n : Nat) (s : ByteArray) (w : World) (e : Ending) (w' : World) : Prop :=
  e = .returned (.tuple #[.string (upA (up n s.data.toList)), .string (upR (up n s.data.toList)), .bool (up n s.data.toList).isSome]) ∧ Below w.heap.size w w'
set_option maxRecDepth 100000 in
set_option maxHeartbeats 2000000 in
theorem upI_step (n S : Nat) (s : ByteArray) (w : World) (hs : s.size ≤ 2000) (hS : S = 2 ^ n) (hn : n ≤ 4)
    (IH : Hid (∀ m h : Nat, n = m + 1 → h = 2 ^ m → ∀ (s' : ByteArray) (w' : World), s'.size ≤ 2000 → Calls Tryd.prog 65 #[.string s', .int .i64 h] w' (UqRes m s' w'))) :
    Calls Tryd.prog 65 #[.string s, .int .i64 S] w (UqRes n s w) := by
  have hmm := @run_makeMap Tryd.prog
  have HS := Lib.hid hS
  clear hS
  obtain ⟨w8, hu8, hm8, hg8, hz8⟩ := (MapF.made (kv := byV) (good := byOk) w).update byteK Tryd.underlying121 48 ⟨by decide, by decide⟩ (.string ⟨#[46]⟩)
  obtain ⟨w9, hu9, hm9, hg9, hz9⟩ := hm8.update byteK Tryd.underlying121 49 ⟨by decide, by decide⟩ (.string ⟨#[35]⟩)
  have hu8 : (Instr.mapUpdate 121 (.map (some w.heap.size)) (.int .u8 48) (.string ⟨#[46]⟩)).run Tryd.prog (w.alloc (.map #[] 0)) = .ok () w8 := hu8
  have hu9 : (Instr.mapUpdate 121 (.map (some w.heap.size)) (.int .u8 49) (.string ⟨#[35]⟩)).run Tryd.prog w8 = .ok () w9 := hu9
  have B8 : Below w.heap.size w w8 := (Ext.more (Ext.refl w) (.map #[] 0)).grown hg8 (by simp) (fun z hz => by cases hz; exact Nat.le_refl _)
  have B9 : Below w.heap.size w w9 := B8.grown hg9 (by simp at hz8; omega) (fun z hz => by cases hz; exact Nat.le_refl _)
  have hm9 : MapF byV byOk w9 w.heap.size lfF := hm9
  have LK : Hid (∀ c : UInt8, (Instr.lookup 121 (.map (some w.heap.size)) (.int .u8 (c.toNat : Int)) false).run Tryd.prog w9 = .ok (.string ⟨(lfI c).toArray⟩) w9) := fun c => by
    have h := hm9.lookup byteK Tryd.underlying121 (z := .string ByteArray.empty) (by kernel_rfl) (c.toNat : Int) ⟨by omega, by have := c.toNat_lt; omega⟩ false
    rw [lfF_at] at h
    exact h
  have hmd : MapF byV byOk w9.drew w.heap.size lfF := hm9
  have LD : Hid (∀ c : UInt8, (Instr.lookup 121 (.map (some w.heap.size)) (.int .u8 (c.toNat : Int)) false).run Tryd.prog w9.drew = .ok (.string ⟨(lfI c).toArray⟩) w9.drew) := fun c => by
    have h := hmd.lookup byteK Tryd.underlying121 (z := .string ByteArray.empty) (by kernel_rfl) (c.toNat : Int) ⟨by omega, by have := c.toNat_lt; omega⟩ false
    rw [lfF_at] at h
    exact h
  have HB : Hid (Below w.heap.size w w9 ∧ Below w.heap.size w w9.drew) := ⟨B9, Ext.draw B9⟩
  clear hm8 hg8 hz8 hg9 hz9 B8 B9
  by_cases h0 : s.size = 0
  · have e : s = ByteArray.empty := by
      apply ByteArray.ext
      exact Array.eq_empty_of_size_eq_zero h0
    subst e
    have F : Hid (up n ByteArray.empty.data.toList = none) := up_nil n
    go_enter Tryd.func65, Tryd.ntmps65
    go_wp2_with fail
    refine bodyPost_ret (v := .tuple #[.string ⟨#[]⟩, .string ⟨#[]⟩, .bool false]) (by simp [results, Tryd.results65, go_sem]) rfl ⟨by rw [F.out]; rfl, by first | exact HB.out.1 | exact HB.out.2⟩
  have HLN : Hid (s.data.toList.length = s.size) := rfl
  have hD : s.data.toList.drop 0 = s[0] :: s.data.toList.drop 1 := List.drop_eq_getElem_cons (by have := HLN.out; omega)
  rw [List.drop_zero] at hD
  have he : s.toList.isEmpty = false := by
    rw [ByteArray.toList_eq, hD]; rfl
  have p0 : 0 < s.size := by omega
  have p1 : (0 : Int) < (s.size : Int) := by omega
  have p2 : (1 : Int) ≤ (s.size : Int) := by omega
  have E1 : Hid (s.extract 1 s.size = ⟨(s.data.toList.drop 1).toArray⟩) := by
    have := ex_mk s 1 s.size
    rw [List.take_of_length_le (by rw [List.length_drop, HLN.out]; omega)] at this
    exact this
  have lk0 := LK.out s[0]
  have ld0 := LD.out s[0]
  by_cases hn0 : n = 0
  · subst hn0
    have F : Hid (up 0 s.data.toList = some (lfI s[0], s.data.toList.drop 1)) := by rw [Hid, hD]; rfl
    have hS1 : ((S : Int) == 1) = true := by rw [HS.out]; rfl
    clear hD
    go_enter Tryd.func65, Tryd.ntmps65
    go_wp2_with fail
    go_region_held3 (fun w' => MapF byV byOk w' w.heap.size lfF) (first | exact hm9 | exact hmd) (fail)
    go_wp2_with fail
    refine bodyPost_ret (v := .tuple #[.string ⟨(lfI s[0]).toArray⟩, .string (s.extract 1 s.size), .bool true]) (by simp [results, Tryd.results65, go_sem]) rfl ⟨by rw [F.out, E1.out]; rfl, by first | exact HB.out.1 | exact HB.out.2⟩
  obtain ⟨m, rfl⟩ : ∃ m, n = m + 1 := ⟨n - 1, by omega⟩
  have hS1 : ((S : Int) == 1) = false := by
    rw [beq_eq_false_iff_ne, HS.out, Nat.pow_succ]
    have : 1 ≤ 2 ^ m := Nat.one_le_pow _ _ (by decide)
    omega
  by_cases h48 : s[0] = 48
  · have hv : ((s[0].toNat : Nat) : Int) = 48 := by rw [h48]; rfl
    by_cases h1 : s.size = 1
    · have F : Hid (up (m + 1) s.data.toList = none) := by
        rw [Hid, hD, h48, List.drop_of_length_le (by have := HLN.out; omega)]; rfl
      have q1 : ¬ (1 : Int) < (s.size : Int) := by omega
      clear hD h48 lk0 ld0
      go_enter Tryd.func65, Tryd.ntmps65
      go_wp2_with fail
      refine bodyPost_ret (v := .tuple #[.string ⟨#[]⟩, .string ⟨#[]⟩, .bool false]) (by simp [results, Tryd.results65, go_sem]) rfl ⟨by rw [F.out]; rfl, by first | exact HB.out.1 | exact HB.out.2⟩
    · have hD1 : s.data.toList.drop 1 = s[1] :: s.data.toList.drop 2 := List.drop_eq_getElem_cons (by have := HLN.out; omega)
      have F : Hid (up (m + 1) s.data.toList = some (lfI s[1], s.data.toList.drop 2)) := by rw [Hid, hD, h48, hD1]; rfl
      have E2 : Hid (s.extract 2 s.size = ⟨(s.data.toList.drop 2).toArray⟩) := by
        have := ex_mk s 2 s.size
        rw [List.take_of_length_le (by rw [List.length_drop, HLN.out]; omega)] at this
        exact this
      have q1 : (1 : Int) < (s.size : Int) := by omega
      have q2 : (2 : Int) ≤ (s.size : Int) := by omega
      have lk1 := LK.out s[1]
      have ld1 := LD.out s[1]
      clear hD h48 lk0 ld0 hD1
      go_enter Tryd.func65, Tryd.ntmps65
      go_wp2_with fail
      go_region_held3 (fun w' => MapF byV byOk w' w.heap.size lfF) (first | exact hm9 | exact hmd) (fail)
      go_wp2_with fail
      refine bodyPost_ret (v := .tuple #[.string ⟨(lfI s[1]).toArray⟩, .string (s.extract 2 s.size), .bool true]) (by simp [results, Tryd.results65, go_sem]) rfl ⟨by rw [F.out, E2.out]; rfl, by first | exact HB.out.1 | exact HB.out.2⟩
  have hv48 : (((s[0].toNat : Nat) : Int) == 48) = false := by
    rw [beq_eq_false_iff_ne]; intro e; exact h48 (UInt8.toNat_inj.1 (by rw [show (48 : UInt8).toNat = 48 from rfl]; omega))
  by_cases h49 : s[0] = 49
  case neg =>
    have F : Hid (up (m + 1) s.data.toList = none) := by
      rw [Hid, hD]; simp [up, h48, h49]
    have hv49 : (((s[0].toNat : Nat) : Int) != 49) = true := by
      rw [bne_iff_ne]; intro e; exact h49 (UInt8.toNat_inj.1 (by rw [show (49 : UInt8).toNat = 49 from rfl]; omega))
    clear hD h48 lk0 ld0 h49
    go_enter Tryd.func65, Tryd.ntmps65
    go_wp2_with fail
    refine bodyPost_ret (v := .tuple #[.string ⟨#[]⟩, .string ⟨#[]⟩, .bool false]) (by simp [results, Tryd.results65, go_sem]) rfl ⟨by rw [F.out]; rfl, by first | exact HB.out.1 | exact HB.out.2⟩
  have hv : ((s[0].toNat : Nat) : Int) = 49 := by rw [h49]; rfl
  have U0 : Hid (up (m + 1) s.data.toList = upK m (4 - 0) [40] (s.data.toList.drop 1)) := by rw [Hid, hD, h49]; exact up_four m _
  obtain ⟨h, hh⟩ : ∃ h, 2 ^ m = h := ⟨_, rfl⟩
  have h16 : h ≤ 16 := by rw [← hh]; exact Nat.le_trans (Nat.pow_le_pow_right (by decide) (show m ≤ 4 by omega)) (by decide)
  have e2 : (S : Int).tdiv 2 = (h : Int) := by
    have := HS.out
    rw [Nat.pow_succ, hh] at this
    rw [Int.tdiv_eq_ediv_of_nonneg (by omega)]; omega
  have I := Lib.hid (fun (r : List UInt8) (w' : World) (hr : r.length ≤ 2000) => IH.out m h rfl hh.symm ⟨r.toArray⟩ w' (by simpa [ByteArray.size] using hr))
  have UL := Lib.hid (fun (l a r : List UInt8) (e : up m l = some (a, r)) => up_len m l a r e)
  have P4 : Hid (4 ^ m ≤ 256) := Nat.le_trans (Nat.pow_le_pow_right (by decide) (show m ≤ 4 by omega)) (by decide)
  have R0 : Hid ((s.data.toList.drop 1).length ≤ 2000) := by rw [Hid, List.length_drop]; have := HLN.out; omega
  clear lk0 ld0 LK LD h48 h49 hD hh IH
  go_enter Tryd.func65, Tryd.ntmps65
  go_wp2_with fail
  go_loopw [0, 8, 47] (fun sv ov iv wr => ∃ (k : Nat) (o r : List UInt8), k ≤ 4 ∧ iv = .int .i64 k ∧ sv = .string ⟨r.toArray⟩ ∧ ov = .string ⟨o.toArray⟩ ∧ Hid (up (m + 1) s.data.toList = upK m (4 - k) o r) ∧ o.length ≤ 1 + k * 1000 ∧ r.length ≤ 2000 ∧ Below w.heap.size w wr) (fun _ _ iv _ => 4 - (intOf iv).toNat)
  case atStart => exact ⟨0, [40], s.data.toList.drop 1, by omega, rfl, by rw [E1.out], rfl, U0, by simp, R0.out, by first | exact HB.out.1 | exact HB.out.2⟩
  case round =>
    obtain ⟨k, o, r, hk, rfl, rfl, rfl, hU, ho, hr, hb⟩ := hrel
    by_cases hlt : k < 4
    · have q0 : (k : Int) < 4 := by omega
      have I1 := I.out r wr hr
      unfold UqRes at I1
      rw [show (⟨r.toArray⟩ : ByteArray).data.toList = r by simp] at I1
      cases hup : up m r with
      | none =>
        have F : Hid (up (m + 1) s.data.toList = none) := by
          rw [Hid, hU.out, show 4 - k = (3 - k) + 1 by omega, upK, hup]; rfl
        rw [hup] at I1
        simp only [upA, upR, Option.isSome_none] at I1
        have J := Lib.hid I1
        clear I1 hup hU
        go_wp2_with fail
        refine J.out.mono ?_
        rintro e w2 ⟨rfl, hb2⟩
        go_wp2_with fail
        refine bodyPost_ret (v := .tuple #[.string ⟨#[]⟩, .string ⟨#[]⟩, .bool false]) (by simp [results, Tryd.results65, go_sem]) rfl ⟨by rw [F.out]; rfl, Ext.then_ hb hb2⟩
      | some z =>
        obtain ⟨a, r'⟩ := z
        have U' : Hid (up (m + 1) s.data.toList = upK m (4 - (k + 1)) (o ++ a) r') := by
          rw [Hid, hU.out, show 4 - k = (4 - (k + 1)) + 1 by omega, upK, hup]; rfl
        have la := UL.out r a r' hup
        have p4 := P4.out
        rw [hup] at I1
        simp only [upA, upR, Option.isSome_some] at I1
        have J := Lib.hid I1
        have la1 : a.length ≤ 1000 := by omega
        have la2 : r'.length ≤ 2000 := by omega
        have OA : Hid ((⟨o.toArray⟩ : ByteArray) ++ ⟨a.toArray⟩ = ⟨(o ++ a).toArray⟩) := by
          rw [Hid]
          apply ByteArray.ext
          simp
        have s1 : (⟨o.toArray⟩ : ByteArray).size = o.length := by simp [ByteArray.size]
        have s2 : (⟨a.toArray⟩ : ByteArray).size = a.length := by simp [ByteArray.size]
        have s3 : ¬ 9223372036854775807 < (⟨o.toArray⟩ : ByteArray).size + (⟨a.toArray⟩ : ByteArray).size := by omega
        have lo : (o ++ a).length ≤ 1 + (k + 1) * 1000 := by rw [List.length_append]; omega
        clear I1 hup hU la p4
        go_wp2_with fail
        refine J.out.mono ?_
        rintro e w2 ⟨rfl, hb2⟩
        go_wp2_with fail
        go_roundw
        case rel => exact ⟨k + 1, o ++ a, r', by omega, by go_num, by rfl, by rw [← OA.out], U', lo, la2, Ext.then_ hb hb2⟩
        case measure => simp [intOf]; omega
    · obtain rfl : k = 4 := by omega
      have F : Hid (up (m + 1) s.data.toList = some (o ++ [41], r)) := by rw [Hid, hU.out]; rfl
      have OA : Hid ((⟨o.toArray⟩ : ByteArray) ++ ⟨#[41]⟩ = ⟨(o ++ [41]).toArray⟩) := by
        rw [Hid]
        apply ByteArray.ext
        simp
      have s1 : (⟨o.toArray⟩ : ByteArray).size = o.length := by simp [ByteArray.size]
      have s3 : ¬ 9223372036854775807 < (⟨o.toArray⟩ : ByteArray).size + 1 := by omega
      clear hU
      go_wp2_with fail
      refine bodyPost_ret (v := .tuple #[.string ((⟨o.toArray⟩ : ByteArray) ++ ⟨#[41]⟩), .string ⟨r.toArray⟩, .bool true]) (by simp [results, Tryd.results65, go_sem]) rfl ⟨by rw [F.out, OA.out]; rfl, hb⟩
theorem upI_any : ∀ (n S : Nat) (s : ByteArray) (w : World), s.size ≤ 2000 → S = 2 ^ n → n ≤ 4 →
    Calls Tryd.prog 65 #[.string s, .int .i64 S] w (UqRes n s w) := by
  intro n
  induction n with
  | zero => intro S s w hs hS hn; exact upI_step 0 S s w hs hS hn (fun m h e => by omega)
  | succ n ih =>
    intro S s w hs hS hn
    exact upI_step (n + 1) S s w hs hS hn (fun m h e e2 s' w' hs' => by
      obtain rfl : m = n := by omega
      exact ih h s' w' hs' e2 (by omega))
end Go.Proofs.YtogefmkplkddoaaDoor
