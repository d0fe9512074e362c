/- The size of a picture, where a further argument's is taken behind it. -/
import Derived.Test.YtdhajndmebnknaaShp
namespace Go.Proofs.Ytdhajndmebnknaa
open Go.RowKit

set_option maxHeartbeats 400000 in
theorem szStrs2_any (A : Option Addr) (c : Nat) (rows : List ByteArray) (l0 : Nat) (hl : l0 ≤ 1048576) (w : World) (h : RdA w A (strs rows)) (hn : rows.length ≤ maxLen) (hsz : ∀ r ∈ rows, r.size ≤ maxLen) :
    Calls Try.prog 24 #[.slice A rows.length c, .int .i64 l0] w fun e w' => (∃ r : Int, e = .returned (.int .i64 r) ∧ (r < 0 ∨ rows.length ≤ l0 ∧ ∃ l : Nat, l ≤ 1048576 ∧ r = l)) ∧ w = w' := by
  unfold maxLen at hn hsz
  have SZ := Lib.hid hsz
  clear hsz
  have HX := Lib.hid h.str
  clear h
  obtain ⟨n, hnL⟩ : ∃ n, rows.length = n := ⟨_, rfl⟩
  rw [hnL] at hn ⊢
  have i0 : IntKind.i64.wrap ((l0 : Int) - n) = (l0 : Int) - n := IntWalk.i64_in _ (by omega)
  by_cases h1 : (l0 : Int) - n < 0
  · go_enter Try.func24, Try.ntmps24
    go_wp2_with fail
    go_ret
    exact ⟨⟨-1, rfl, .inl (by decide)⟩, rfl⟩
  · have t1 : ¬ ((l0 : Int) - n < 0) := h1
    have HLE : Hid (n ≤ l0) := by show n ≤ l0; omega
    go_enter Try.func24, Try.ntmps24
    go_wp2_with fail
    go_loop [1, 5] (fun v i => ∃ (k : Nat) (l : Int), k ≤ n ∧ i = .int .i64 k ∧ v = .int .i64 l ∧ 0 ≤ l ∧ l ≤ 1048576) (fun _ i => n - (intOf i).toNat)
    case atStart => exact ⟨0, _, Nat.zero_le _, rfl, rfl, by omega, by omega⟩
    case round =>
      obtain ⟨k, l, hk, rfl, rfl, hl0, hl1⟩ := hrel
      by_cases hlt : k < n
      · have X := HX.out
        obtain ⟨a, rfl, hg, hc⟩ := X (by omega)
        have c1 := hc k (by omega)
        clear hc X
        have hrz := SZ.out rows[k] (List.getElem_mem _)
        generalize rows[k] = r at *
        have i2 : (0 : Int) ≤ (k : Int) := by omega
        have i3 : (k : Int) < (n : Int) := by omega
        have hz : (0 : Int) ≤ (r.size : Int) := by omega
        · have i4 : IntKind.i64.wrap (l - r.size) = l - r.size := IntWalk.i64_in _ (by omega)
          by_cases h2 : l - (r.size : Int) < 0
          · go_wp2_with fail
            go_ret
            exact ⟨⟨-1, rfl, .inl (by decide)⟩, rfl⟩
          · go_wp2_with fail
            go_round
            case rel => exact ⟨k + 1, _, by omega, by go_num, rfl, by omega, by omega⟩
            case measure => simp [intOf]; omega
      · obtain rfl : k = n := by omega
        go_wp2_with fail
        go_ret
        exact ⟨⟨l, rfl, .inr ⟨HLE.out, l.toNat, by omega, by omega⟩⟩, rfl⟩
theorem szPic2_any (A : Option Addr) (c : Nat) (rows : List ByteArray) (l0 : Nat) (hl : l0 ≤ 1048576) (w : World) (h : RdA w A (strs rows)) (hn : rows.length ≤ maxLen) (hsz : ∀ r ∈ rows, r.size ≤ maxLen) :
    Calls Try.prog 7 #[.agg #[.slice A rows.length c], .int .i64 l0] w fun e w' => (∃ r : Int, e = .returned (.int .i64 r) ∧ (r < 0 ∨ rows.length ≤ l0 ∧ ∃ l : Nat, l ≤ 1048576 ∧ r = l)) ∧ Below w.heap.size w w' := by
  have SZ := Lib.hid (fun V (hb : Below w.heap.size w V) => szStrs2_any A c rows l0 hl V (h.ext hb) hn hsz)
  clear h hn hsz
  generalize rows.length = n at *
  go_enter Try.func7, Try.ntmps7
  go_wp2_with fail
  refine (SZ.out _ (Ext.more (Ext.refl _) _)).mono ?_
  rintro e w' ⟨⟨r, rfl, hr⟩, rfl⟩
  by_cases h0 : r < 0
  · go_wp2_with fail
    go_ret
    exact ⟨⟨-1, rfl, .inl (by decide)⟩, Ext.more (Ext.refl _) _⟩
  · have HR := Lib.hid hr
    clear hr
    go_wp2_with fail
    go_ret
    exact ⟨⟨r, rfl, HR.out⟩, Ext.more (Ext.refl _) _⟩
theorem picSz2_any (A : Option Addr) (c : Nat) (rows : List ByteArray) (l0 : Nat) (hl : l0 ≤ 1048576) (w : World) (h : RdA w A (strs rows)) (hn : rows.length ≤ maxLen) (hsz : ∀ r ∈ rows, r.size ≤ maxLen) :
    Calls Try.prog 7 #[.agg #[.slice A rows.length c], .int .i64 l0] w fun e w' => (∃ r : Int, e = .returned (.int .i64 r) ∧ (r < 0 ∨ picSmall rows ∧ ∃ l : Nat, l ≤ 1048576 ∧ r = l)) ∧ Below w.heap.size w w' :=
  (szPic2_any A c rows l0 hl w h hn hsz).mono fun _ _ ⟨⟨r, h1, h2⟩, h3⟩ => ⟨⟨r, h1, h2.imp (fun h => h) (fun h => ⟨by unfold picSmall; omega, h.2⟩)⟩, h3⟩
end Go.Proofs.Ytdhajndmebnknaa
