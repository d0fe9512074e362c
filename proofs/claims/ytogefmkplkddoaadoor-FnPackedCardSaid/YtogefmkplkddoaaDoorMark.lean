/- The laws' marks on texts. -/
import Derived.Test.YtogefmkplkddoaaDoorStr
import Derived.Deep.RegionHeld3
namespace Go.Proofs.YtogefmkplkddoaaDoor
open Go.RowKit

/-- A number's digits. -/
def digs (k : Nat) : List UInt8 := if _h : k = 0 then [] else digs (k / 10) ++ [UInt8.ofNat (48 + k % 10)]
termination_by k
decreasing_by omega
theorem digs_zero : digs 0 = [] := by rw [digs]; simp
theorem digs_pos {k : Nat} (h : k ≠ 0) : digs k = digs (k / 10) ++ [UInt8.ofNat (48 + k % 10)] := by rw [digs]; simp [h]
def markS (k : Nat) : ByteArray := ⟨(109 :: digs k).toArray⟩
theorem digs_length (k : Nat) : (digs k).length ≤ k := by
  induction k using Nat.strongRecOn with
  | _ k ih =>
    by_cases h : k = 0
    · subst h; rw [digs_zero]; simp
    · rw [digs_pos h]
      have := ih (k / 10) (by omega)
      simp; omega
theorem digU (k : Nat) : ((UInt8.ofNat (48 + k % 10)).toNat : Int) = 48 + (k : Int) % 10 := by
  have : (UInt8.ofNat (48 + k % 10)).toNat = 48 + k % 10 := by
    rw [UInt8.toNat_ofNat']; omega
  rw [this]; omega

set_option maxRecDepth 100000 in
set_option maxHeartbeats 400000 in
theorem markText_any (k0 : Nat) (h0 : 0 < k0) (h1 : k0 ≤ 1000000000000) (w : World) :
    Calls Tryd.prog 93 #[.int .i64 k0] w fun e w' => e = .returned (.string (markS k0)) ∧ Below w.heap.size w w' := by
  have t0 : ¬ (k0 : Int) ≤ 0 := by omega
  have t2 : ¬ k0 = 0 := by omega
  go_enter Tryd.func93, Tryd.ntmps93
  go_wp2_with fail
  go_loopw [0, 3] (fun i o wr => ∃ (k : Nat) (d : List UInt8), k ≤ k0 ∧ i = .int .i64 k ∧ o = .string ⟨d.toArray⟩ ∧ Hid (digs k ++ d = digs k0) ∧ Below w.heap.size w wr) (fun i _ _ => (intOf i).toNat)
  case atStart => exact ⟨k0, [], Nat.le_refl _, rfl, rfl, by rw [Hid, List.append_nil], Ext.refl _⟩
  case round =>
    obtain ⟨k, d, hk, rfl, rfl, hd, hb⟩ := hrel
    have hdl : d.length ≤ k0 := by
      have h3 := congrArg List.length hd.out
      have h4 := digs_length k0
      rw [List.length_append] at h3
      omega
    by_cases hz : k = 0
    · subst hz
      have F : Hid (ByteArray.mk #[109] ++ ByteArray.mk d.toArray = markS k0) := by
        have := hd.out
        rw [digs_zero, List.nil_append] at this
        rw [Hid, markS, ← this]
        exact bytes_app [109] d
      have t3 : ¬ 9223372036854775807 < 1 + d.length := by omega
      go_wp2_with fail
      go_ret
      exact ⟨by rw [F.out]; rfl, hb⟩
    · have t1 : (0 : Int) < (k : Int) := by omega
      have t3 : ¬ 9223372036854775807 < 1 + d.length := by omega
      have t4 : 0 < k := by omega
      have F : Hid (ByteArray.mk #[UInt8.ofNat (48 + k % 10)] ++ ByteArray.mk d.toArray = ⟨(UInt8.ofNat (48 + k % 10) :: d).toArray⟩) := bytes_app [UInt8.ofNat (48 + k % 10)] d
      have HD2 : Hid (digs (k / 10) ++ (UInt8.ofNat (48 + k % 10) :: d) = digs k0) := by
        rw [Hid, ← hd.out, digs_pos hz, List.append_assoc]; rfl
      have hown := World.ownsRow_lit (e := 5) (size := 1) wr #[.int .u8 (48 + (k : Int) % 10)] 1 (Nat.le_refl _) (by decide) rfl
      have hcv : (convert 30 9 (.slice (some ⟨wr.heap.size, 0, none⟩) 1 1)).run Tryd.prog (wr.alloc (.cells #[.int .u8 (48 + (k : Int) % 10)] 5)) = .ok (.string ⟨#[UInt8.ofNat (48 + k % 10)]⟩) (wr.alloc (.cells #[.int .u8 (48 + (k : Int) % 10)] 5)) :=
        str_of_own (l := [UInt8.ofNat (48 + k % 10)]) (by rw [show u8s [UInt8.ofNat (48 + k % 10)] = [.int .u8 (48 + (k : Int) % 10)] by simp only [u8s, List.map_cons, List.map_nil, digU]]; exact hown) rfl
      clear hown hd
      generalize UInt8.ofNat (48 + k % 10) = u at *
      go_wp2_with fail
      go_roundw
      case rel => exact ⟨k / 10, u :: d, by omega, by simp, by rw [← F.out], HD2, Ext.more hb _⟩
      case measure => simp [intOf]; omega

/-- The marks k, k + 1, .. as texts. -/
def markSs (k n : Nat) : List ByteArray := (List.range n).map fun i => markS (k + i)
theorem markSs_length (k n : Nat) : (markSs k n).length = n := by simp [markSs]
theorem markSs_succ (k n : Nat) : markSs k (n + 1) = markSs k n ++ [markS (k + n)] := by simp [markSs, List.range_succ]
theorem markSs_set (k0 k : Nat) (rows : List ByteArray) (hk : k < rows.length) : (strs (markSs k0 k ++ rows.drop k)).set k (.string (markS (k0 + k))) = strs (markSs k0 (k + 1) ++ rows.drop (k + 1)) := by
  have hd : rows.drop k = rows[k] :: rows.drop (k + 1) := List.drop_eq_getElem_cons hk
  rw [markSs_succ, hd]
  have hm : (List.map Value.string (markSs k0 k)).length = k := by simp [markSs_length]
  simp only [strs, List.map_append, List.map_cons, List.append_assoc, List.cons_append, List.nil_append]
  rw [List.set_append_right _ _ (by omega), hm, Nat.sub_self, List.set_cons_zero]
theorem markSs_full (k0 : Nat) (rows : List ByteArray) : strs (markSs k0 rows.length ++ rows.drop rows.length) = strs (markSs k0 rows.length) := by simp
theorem Chg.ext {S : Nat → Prop} {a b c : World} (h : Chg S a b) (k : Below b.heap.size b c) : Chg S a c :=
  ⟨k.os.trans h.os, k.tape.trans h.tape, k.output.trans h.output, Nat.le_trans h.size k.size, fun j hj hs => (k.block j (Nat.lt_of_lt_of_le hj h.size)).trans (h.block j hj hs)⟩

set_option maxHeartbeats 400000 in
theorem markStrs_any (base : Nat) (A : Option Addr) (c : Nat) (rows : List ByteArray) (k0 : Nat) (h0 : 0 < k0) (w : World) (hA : w.ownsRow base 9 1 (.slice A rows.length c) rows.length (strs rows)) (hn : rows.length ≤ 1000000000) (hk0 : k0 ≤ 1000000000) :
    Calls Tryd.prog 55 #[.slice A rows.length c, .int .i64 k0] w fun e w' => e = .returned (.int .i64 ((k0 + rows.length : Nat) : Int)) ∧
      w'.ownsRow base 9 1 (.slice A rows.length c) rows.length (strs (markSs k0 rows.length)) ∧ Chg (fun b => ∃ a, A = some a ∧ b = a.block) w w' := by
  have SH := Lib.hid (fun k (hk : k < rows.length) => markSs_set k0 k rows hk)
  have FH := Lib.hid (markSs_full k0 rows)
  have hA0 : w.ownsRow base 9 1 (.slice A rows.length c) rows.length (strs (markSs k0 0 ++ rows.drop 0)) := by simpa [markSs] using hA
  have LH := Lib.hid (fun k (hk : k ≤ rows.length) => (show (strs (markSs k0 k ++ rows.drop k)).length = rows.length by simp [strs, markSs_length]; omega))
  clear hA
  obtain ⟨n, hnL⟩ : ∃ n, rows.length = n := ⟨_, rfl⟩
  rw [hnL] at hA0 hn FH SH LH ⊢
  clear hnL
  go_enter Tryd.func55, Tryd.ntmps55
  go_wp2_with fail
  go_loopw [1, 5] (fun v i wr => ∃ k : Nat, k ≤ n ∧ i = .int .i64 k ∧ v = .int .i64 ((k0 + k : Nat) : Int) ∧ wr.ownsRow base 9 1 (.slice A n c) n (strs (markSs k0 k ++ rows.drop k)) ∧ Chg (fun b => ∃ a, A = some a ∧ b = a.block) w wr) (fun _ i _ => n - (intOf i).toNat)
  case atStart => exact ⟨0, Nat.zero_le _, rfl, rfl, hA0, Chg.refl _ _⟩
  case round =>
    obtain ⟨k, hk, rfl, rfl, hown, hb⟩ := hrel
    clear hA0
    by_cases hlt : k < n
    · rcases hown.2 with ⟨_, h0⟩ | ⟨g, cap, cur, hv, _⟩
      · omega
      · simp only [Value.slice.injEq] at hv
        obtain ⟨rfl, _, rfl⟩ := hv
        have MT := Lib.hid (markText_any (k0 + k) (by omega) (by omega) wr)
        have i0 : (0 : Int) ≤ (k : Int) := by omega
        have i1 : (k : Int) < (n : Int) := by omega
        go_wp2_with fail
        refine MT.out.mono ?_
        rintro e w2 ⟨rfl, hb2⟩
        have hown2 := own_ext hb2 hown
        have c1 := hown2.cellAt k (by omega)
        have f1 := hown2.frozenAt k
        have hst := hown2.stored k (.string (markS (k0 + k)))
        rw [SH.out k hlt] at hst
        have hl : k < (strs (markSs k0 k ++ rows.drop k)).length := by rw [LH.out k hk]; exact hlt
        rw [List.getElem?_eq_getElem hl] at c1
        generalize (strs (markSs k0 k ++ rows.drop k))[k]'hl = u at c1
        have HST := Lib.hid hst
        clear hst hown hown2
        go_wp2_with fail
        go_roundw
        case rel => exact ⟨k + 1, by omega, by go_num, by go_num, HST.out.1, (hb.ext hb2).store (p := ⟨g, k, none⟩) ⟨_, rfl, rfl⟩ _⟩
        case measure => simp [intOf]; omega
    · obtain rfl : k = n := by omega
      have e := FH.out
      rw [e] at hown
      clear e
      go_wp2_with fail
      go_ret
      exact ⟨rfl, hown, hb⟩

set_option maxRecDepth 100000 in
set_option maxHeartbeats 400000 in
theorem heldStrs_any (A : Option Addr) (c n k0 : Nat) (h0 : 0 < k0) (w : World) (hA : Rd w A (strs (markSs k0 n))) (hn : n ≤ 1000000000) (hk0 : k0 ≤ 1000000000) :
    Calls Tryd.prog 56 #[.slice A n c, .int .i64 k0] w fun e w' => e = .returned (.int .i64 ((k0 + n : Nat) : Int)) ∧ Below w.heap.size w w' := by
  have hl : (markSs k0 n).length = n := markSs_length _ _
  have XA := Lib.hid (fun V (hb : Below w.heap.size w V) => (hA.ext hb).str)
  have EL := Lib.hid (fun k (hk : k < (markSs k0 n).length) => (show (markSs k0 n)[k] = markS (k0 + k) by simp [markSs]))
  have HL := Lib.hid hl
  clear hA hl
  go_enter Tryd.func56, Tryd.ntmps56
  go_wp2_with fail
  go_loopw [1, 5] (fun v i wr => ∃ k : Nat, k ≤ n ∧ i = .int .i64 k ∧ v = .int .i64 ((k0 + k : Nat) : Int) ∧ Below w.heap.size w wr) (fun _ i _ => n - (intOf i).toNat)
  case atStart => exact ⟨0, Nat.zero_le _, rfl, rfl, Ext.refl _⟩
  case round =>
    obtain ⟨k, hk, rfl, rfl, hb⟩ := hrel
    by_cases hlt : k < n
    · have X := XA.out wr hb
      have hl := HL.out
      obtain ⟨g, rfl, hg, hcA⟩ := X (by omega)
      have c1 := hcA k (by omega)
      rw [EL.out k (by omega)] at c1
      have MT := Lib.hid (fun V => markText_any (k0 + k) (by omega) (by omega) V)
      clear hcA X hl
      have i0 : (0 : Int) ≤ (k : Int) := by omega
      have i1 : (k : Int) < (n : Int) := by omega
      have hsz := hb.size
      go_wp2_with fail
      go_region_held3 (fun w' => w'.cell? ⟨g, k, none⟩ = some (.string (markS (k0 + k))))
        (first | exact (hb'.cell (p := ⟨g, k, none⟩) (by simpa)).trans (by assumption) | go_keep)
        (first | (go_at_call 93; refine (MT.out _).mono ?_; rintro e w' ⟨rfl, hb'⟩))
      go_wp2_with fail
      go_roundw
      case rel => exact ⟨k + 1, by omega, by go_num, by go_num, Ext.then_ hb (Ext.undraw hb')⟩
      case measure => simp [intOf]; omega
    · obtain rfl : k = n := by omega
      go_wp2_with fail
      go_ret
      exact ⟨rfl, hb⟩
end Go.Proofs.YtogefmkplkddoaaDoor
