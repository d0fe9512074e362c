/- slices.IndexFunc and slices.ContainsFunc, at whatever function value that makes memory of its own alone. -/
import Derived.Test.YtkamkjbllmgifaaEq
import Derived.Test.YtkamkjbllmgifaaImgC
namespace Go.Proofs.Ytkamkjbllmgifaa
open Go.RowKit

/-- The first of n places at which b holds; -1. -/
def IdxF (b : Nat → Bool) (n : Nat) (r : Int) : Prop := (∃ k : Nat, r = k ∧ k < n ∧ b k = true ∧ ∀ j, j < k → b j = false) ∨ (r = -1 ∧ ∀ j, j < n → b j = false)
theorem IdxF.any {b : Nat → Bool} {n : Nat} {r : Int} (h : IdxF b n r) : decide (0 ≤ r) = (List.range n).any b := by
  rcases h with ⟨k, rfl, hk, hb, _⟩ | ⟨rfl, hb⟩
  · have : (List.range n).any b = true := List.any_eq_true.2 ⟨k, by simpa using hk, hb⟩
    rw [this]; simp
  · have : (List.range n).any b = false := by
      rw [List.any_eq_false]
      intro x hx
      rw [hb x (by simpa using hx)]; simp
    rw [this]; decide

set_option maxRecDepth 100000 in
set_option maxHeartbeats 400000 in
theorem indexFuncM_any (A : Option Addr) (c n : Nat) (K : FuncId) (caps : Array Value) (vs : List Value) (b : Nat → Bool) (w : World) (hA : Rd w A vs) (hl : vs.length = n) (hn : n ≤ 1000000000) (hK : Enters K)
    (hF : ∀ i (h : i < vs.length), ∀ wr, Below w.heap.size w wr → Calls Try.prog K (#[vs[i]] ++ caps) wr fun e w' => e = .returned (.bool (b i)) ∧ Below wr.heap.size wr w') :
    Calls Try.prog 103 #[.slice A n c, .func (.func K) #[] caps] w fun e w' => (∃ r : Int, e = .returned (.int .i64 r) ∧ IdxF b n r) ∧ Below w.heap.size w w' := by
  have FH := Lib.hid hF
  have AH := Lib.hid (fun V (hb : Below w.heap.size w V) => hA.ext hb)
  have HL := Lib.hid hl
  clear hF hl hA
  unfold Enters at hK
  go_enter Try.func103, Try.ntmps103
  go_wp2_with fail
  go_loopw [8] (fun i wr => ∃ k : Nat, k ≤ n ∧ i = .int .i64 k ∧ Hid (∀ j, j < k → b j = false) ∧ Below w.heap.size w wr) (fun i _ => n - (intOf i).toNat)
  case atStart => exact ⟨0, Nat.zero_le _, rfl, fun j h => absurd h (Nat.not_lt_zero _), Ext.refl _⟩
  case round =>
    obtain ⟨k, hk, rfl, hno, hb⟩ := hrel
    by_cases hlt : k < n
    · have hkv : k < vs.length := by rw [HL.out]; exact hlt
      obtain ⟨g, rfl, hg, hc⟩ := AH.out wr hb (by omega)
      have c1 := hc k hkv
      have C := Lib.hid (FH.out k hkv wr hb)
      have i0 : (0 : Int) ≤ (k : Int) := by omega
      have i1 : (k : Int) < (n : Int) := by omega
      clear hc
      generalize vs[k] = v at *
      obtain ⟨bk, hbk⟩ : ∃ x, b k = x := ⟨_, rfl⟩
      have HB := Lib.hid hbk
      rw [hbk] at C
      clear hbk
      cases bk
      · go_wp2_with fail
        refine C.out.mono ?_
        rintro e w2 ⟨rfl, hb2⟩
        go_wp2_with fail
        go_roundw
        case rel => exact ⟨k + 1, by omega, by go_num, fun j hj => (by rcases Nat.lt_succ_iff_lt_or_eq.1 hj with h | h; exact hno j h; rw [h]; exact HB.out), Ext.then_ hb hb2⟩
        case measure => simp [intOf]; omega
      · go_wp2_with fail
        refine C.out.mono ?_
        rintro e w2 ⟨rfl, hb2⟩
        have R : Hid (IdxF b n k) := .inl ⟨k, rfl, hlt, HB.out, hno⟩
        clear hno
        go_wp2_with fail
        go_ret
        exact ⟨⟨_, rfl, R.out⟩, Ext.then_ hb hb2⟩
    · obtain rfl : k = n := by omega
      have R : Hid (IdxF b k (-1)) := .inr ⟨rfl, hno⟩
      clear hno
      go_wp2_with fail
      go_ret
      exact ⟨⟨_, rfl, R.out⟩, hb⟩
set_option maxRecDepth 100000 in
set_option maxHeartbeats 400000 in
theorem containsFuncM_any (A : Option Addr) (c n : Nat) (K : FuncId) (caps : Array Value) (vs : List Value) (b : Nat → Bool) (w : World) (hA : Rd w A vs) (hl : vs.length = n) (hn : n ≤ 1000000000) (hK : Enters K)
    (hF : ∀ i (h : i < vs.length), ∀ wr, Below w.heap.size w wr → Calls Try.prog K (#[vs[i]] ++ caps) wr fun e w' => e = .returned (.bool (b i)) ∧ Below wr.heap.size wr w') :
    Calls Try.prog 83 #[.slice A n c, .func (.func K) #[] caps] w fun e w' => e = .returned (.bool ((List.range n).any b)) ∧ Below w.heap.size w w' := by
  have C := Lib.hid (indexFuncM_any A c n K caps vs b w hA hl hn hK hF)
  clear hF hA hl hK
  go_enter Try.func83, Try.ntmps83
  go_wp2_with fail
  refine C.out.mono ?_
  rintro e w2 ⟨⟨r, rfl, hr⟩, hb2⟩
  have E := Lib.hid hr.any
  clear hr
  go_wp2_with fail
  go_ret
  exact ⟨ret_bool E.out, hb2⟩
set_option maxRecDepth 100000 in
set_option maxHeartbeats 400000 in
theorem indexFuncI_any (A : Option Addr) (c n : Nat) (K : FuncId) (caps : Array Value) (vs : List Value) (b : Nat → Bool) (w : World) (hA : Rd w A vs) (hl : vs.length = n) (hn : n ≤ 1000000000) (hK : Enters K)
    (hF : ∀ i (h : i < vs.length), ∀ wr, Below w.heap.size w wr → Calls Try.prog K (#[vs[i]] ++ caps) wr fun e w' => e = .returned (.bool (b i)) ∧ Below wr.heap.size wr w') :
    Calls Try.prog 104 #[.slice A n c, .func (.func K) #[] caps] w fun e w' => (∃ r : Int, e = .returned (.int .i64 r) ∧ IdxF b n r) ∧ Below w.heap.size w w' := by
  have FH := Lib.hid hF
  have AH := Lib.hid (fun V (hb : Below w.heap.size w V) => hA.ext hb)
  have HL := Lib.hid hl
  clear hF hl hA
  unfold Enters at hK
  go_enter Try.func104, Try.ntmps104
  go_wp2_with fail
  go_loopw [8] (fun i wr => ∃ k : Nat, k ≤ n ∧ i = .int .i64 k ∧ Hid (∀ j, j < k → b j = false) ∧ Below w.heap.size w wr) (fun i _ => n - (intOf i).toNat)
  case atStart => exact ⟨0, Nat.zero_le _, rfl, fun j h => absurd h (Nat.not_lt_zero _), Ext.refl _⟩
  case round =>
    obtain ⟨k, hk, rfl, hno, hb⟩ := hrel
    by_cases hlt : k < n
    · have hkv : k < vs.length := by rw [HL.out]; exact hlt
      obtain ⟨g, rfl, hg, hc⟩ := AH.out wr hb (by omega)
      have c1 := hc k hkv
      have C := Lib.hid (FH.out k hkv wr hb)
      have i0 : (0 : Int) ≤ (k : Int) := by omega
      have i1 : (k : Int) < (n : Int) := by omega
      clear hc
      generalize vs[k] = v at *
      obtain ⟨bk, hbk⟩ : ∃ x, b k = x := ⟨_, rfl⟩
      have HB := Lib.hid hbk
      rw [hbk] at C
      clear hbk
      cases bk
      · go_wp2_with fail
        refine C.out.mono ?_
        rintro e w2 ⟨rfl, hb2⟩
        go_wp2_with fail
        go_roundw
        case rel => exact ⟨k + 1, by omega, by go_num, fun j hj => (by rcases Nat.lt_succ_iff_lt_or_eq.1 hj with h | h; exact hno j h; rw [h]; exact HB.out), Ext.then_ hb hb2⟩
        case measure => simp [intOf]; omega
      · go_wp2_with fail
        refine C.out.mono ?_
        rintro e w2 ⟨rfl, hb2⟩
        have R : Hid (IdxF b n k) := .inl ⟨k, rfl, hlt, HB.out, hno⟩
        clear hno
        go_wp2_with fail
        go_ret
        exact ⟨⟨_, rfl, R.out⟩, Ext.then_ hb hb2⟩
    · obtain rfl : k = n := by omega
      have R : Hid (IdxF b k (-1)) := .inr ⟨rfl, hno⟩
      clear hno
      go_wp2_with fail
      go_ret
      exact ⟨⟨_, rfl, R.out⟩, hb⟩
set_option maxRecDepth 100000 in
set_option maxHeartbeats 400000 in
theorem containsFuncI_any (A : Option Addr) (c n : Nat) (K : FuncId) (caps : Array Value) (vs : List Value) (b : Nat → Bool) (w : World) (hA : Rd w A vs) (hl : vs.length = n) (hn : n ≤ 1000000000) (hK : Enters K)
    (hF : ∀ i (h : i < vs.length), ∀ wr, Below w.heap.size w wr → Calls Try.prog K (#[vs[i]] ++ caps) wr fun e w' => e = .returned (.bool (b i)) ∧ Below wr.heap.size wr w') :
    Calls Try.prog 85 #[.slice A n c, .func (.func K) #[] caps] w fun e w' => e = .returned (.bool ((List.range n).any b)) ∧ Below w.heap.size w w' := by
  have C := Lib.hid (indexFuncI_any A c n K caps vs b w hA hl hn hK hF)
  clear hF hA hl hK
  go_enter Try.func85, Try.ntmps85
  go_wp2_with fail
  refine C.out.mono ?_
  rintro e w2 ⟨⟨r, rfl, hr⟩, hb2⟩
  have E := Lib.hid hr.any
  clear hr
  go_wp2_with fail
  go_ret
  exact ⟨ret_bool E.out, hb2⟩
end Go.Proofs.Ytkamkjbllmgifaa
