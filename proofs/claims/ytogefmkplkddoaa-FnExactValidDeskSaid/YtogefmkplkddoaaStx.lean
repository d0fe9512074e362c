/- Lists of texts, as the laws hand them on: sizes, copies, equality, marks. -/
import Derived.Test.YtogefmkplkddoaaShp
namespace Go.Proofs.Ytogefmkplkddoaa
open Go.RowKit

def strsSmall (rows : List ByteArray) : Prop := rows.length ≤ 1048576 ∧ ∀ r ∈ rows, r.size ≤ 1048576
set_option maxHeartbeats 400000 in
theorem strsSz_any (A : Option Addr) (c : Nat) (rows : List ByteArray) (l0 : Nat) (hl : l0 ≤ 1048576) (w : World) (h : RdA w A (strs rows)) (hn : rows.length ≤ maxLen) (hsz : ∀ r ∈ rows, r.size ≤ maxLen) :
    Calls Try.prog 39 #[.slice A rows.length c, .int .i64 l0] w fun e w' => (∃ r : Int, e = .returned (.int .i64 r) ∧ (r < 0 ∨ strsSmall rows)) ∧ Below w.heap.size w w' := by
  unfold maxLen at hn hsz
  have SZ := Lib.hid hsz
  clear hsz
  have HX := Lib.hid h.str
  clear h
  obtain ⟨n, hnL⟩ : ∃ n, rows.length = n := ⟨_, rfl⟩
  have HNL := Lib.hid hnL
  rw [hnL] at hn ⊢
  have i0 : IntKind.i64.wrap ((l0 : Int) - n) = (l0 : Int) - n := IntWalk.i64_in _ (by omega)
  by_cases h1 : (l0 : Int) - n < 0
  · clear hnL
    go_enter Try.func39, Try.ntmps39
    go_wp2_with fail
    go_ret
    exact ⟨⟨-1, rfl, .inl (by decide)⟩, Ext.refl _⟩
  · have t1 : ¬ ((l0 : Int) - n < 0) := h1
    have HLE : Hid (n ≤ 1048576) := by show n ≤ 1048576; omega
    clear hnL
    go_enter Try.func39, Try.ntmps39
    go_wp2_with fail
    go_loop [1, 5] (fun v i => ∃ (k : Nat) (l : Int), k ≤ n ∧ i = .int .i64 k ∧ v = .int .i64 l ∧ 0 ≤ l ∧ l ≤ 1048576 ∧ Hid (∀ j (h : j < rows.length), j < k → rows[j].size ≤ 1048576)) (fun _ i => n - (intOf i).toNat)
    case atStart => exact ⟨0, _, Nat.zero_le _, rfl, rfl, by omega, by omega, fun _ _ h => absurd h (Nat.not_lt_zero _)⟩
    case round =>
      obtain ⟨k, l, hk, rfl, rfl, hl0, hl1, hS⟩ := hrel
      by_cases hlt : k < n
      · have X := HX.out
        have hkr : k < rows.length := by have := HNL.out; omega
        obtain ⟨a, rfl, hg, hc⟩ := X (by omega)
        have c1 := hc k hkr
        clear hc X
        have hrz := SZ.out rows[k] (List.getElem_mem _)
        have S2 : Hid (rows[k].size ≤ 1048576 → ∀ j (h : j < rows.length), j < k + 1 → rows[j].size ≤ 1048576) := fun h j hj hjk => by
          rcases Nat.lt_succ_iff_lt_or_eq.1 hjk with h1 | rfl
          · exact hS.out j hj h1
          · exact h
        generalize rows[k] = r at *
        have i2 : (0 : Int) ≤ (k : Int) := by omega
        have i3 : (k : Int) < (n : Int) := by omega
        have hz : (0 : Int) ≤ (r.size : Int) := by omega
        clear hkr
        · have i4 : IntKind.i64.wrap (l - r.size) = l - r.size := IntWalk.i64_in _ (by omega)
          by_cases h2 : l - (r.size : Int) < 0
          · go_wp2_with fail
            go_ret
            exact ⟨⟨-1, rfl, .inl (by decide)⟩, Ext.refl _⟩
          · have S3 := Lib.hid (S2.out (by omega))
            go_wp2_with fail
            go_round
            case rel => exact ⟨k + 1, _, by omega, by go_num, rfl, by omega, by omega, S3⟩
            case measure => simp [intOf]; omega
      · obtain rfl : k = n := by omega
        have SM : Hid (strsSmall rows) := ⟨by rw [HNL.out]; exact HLE.out, fun r hr => by
          obtain ⟨j, hj, rfl⟩ := List.getElem_of_mem hr
          exact hS.out j hj (by have := HNL.out; omega)⟩
        clear hS
        go_wp2_with fail
        go_ret
        exact ⟨⟨l, rfl, .inr SM.out⟩, Ext.refl _⟩
theorem strsTo_any (A : Option Addr) (c : Nat) (rows : List ByteArray) (w : World) (h : RdA w A (strs rows)) (hn : strsSmall rows) :
    Calls Try.prog 42 #[.slice A rows.length c] w fun e w' => ∃ A' c', e = .returned (.slice A' rows.length c') ∧ PicO w' w.heap.size w'.heap.size A' c' rows ∧ Below w.heap.size w w' :=
  (toStrs_any A c rows w h hn.1).mono fun _ _ ⟨A', c', h1, h2, h3⟩ => ⟨A', c', h1, RowO.of_own h2, h3⟩
theorem strsEq_any (A B : Option Addr) (c d : Nat) (rows : List ByteArray) (w : World) (hA : Rd w A (strs rows)) (hB : Rd w B (strs rows)) (hn : rows.length ≤ 1000000000) :
    Calls Try.prog 45 #[.slice A rows.length c, .slice B rows.length d] w fun e w' => e = .returned (.bool true) ∧ Below w.heap.size w w' :=
  (eqStrs_any A B c d rows w hA hB hn).mono fun _ _ ⟨h1, k, h2⟩ => ⟨h1, by rw [h2]; exact Ext.drawN (Ext.refl _) _⟩
end Go.Proofs.Ytogefmkplkddoaa
