/- Matrices of numbers: equality, marks, held marks. Matrices of numbers that came in: their size, a copy of them. Matrices that came in: size and copy. Matrices that came in: the copy. The laws' own functions of grey pictures. A matrix that grows by a row. -/
import Derived.Test.YtkamkjbllmgifaaPicL
namespace Go.Proofs.Ytkamkjbllmgifaa
open Go.RowKit

theorem rowT : ElemT 24 34 (.slice none 0 0) 1 24 := ⟨Try.underlying24, by kernel_rfl, rfl, by decide, by decide⟩
theorem own_own_ne {w : World} {b1 b2 : Nat} {e1 e2 : TypeId} {s1 s2 n1 n2 : Nat} {v1 v2 : Value} {x1 x2 : List Value} (h1 : w.ownsRow b1 e1 s1 v1 n1 x1) (h2 : w.ownsRow b2 e2 s2 v2 n2 x2) (hne : e1 ≠ e2) {g : Nat} (hg : v1.ownBlock = some g) : v2.ownBlock ≠ some g := by
  intro hg2
  rcases h1.2 with ⟨rfl, _⟩ | ⟨g1, cap1, cur1, rfl, _, hh1, _⟩
  · simp [Value.ownBlock] at hg
  · rcases h2.2 with ⟨rfl, _⟩ | ⟨g2, cap2, cur2, rfl, _, hh2, _⟩
    · simp [Value.ownBlock] at hg2
    · simp only [Value.ownBlock, Option.some.injEq] at hg hg2
      subst hg
      rw [hg2] at hh2
      rw [hh1] at hh2
      injection hh2 with hh2
      injection hh2 with _ ht
      exact hne ht

/-- A matrix that a slice value reads as. -/
def MatRd (w : World) (A : Option Addr) (rows : List (List Int)) : Prop :=
  0 < rows.length → ∃ g, A = some ⟨g, 0, none⟩ ∧ g < w.heap.size ∧ ∀ i (h : i < rows.length), ∃ Ai ci, w.cell? ⟨g, i, none⟩ = some (.slice Ai rows[i].length ci) ∧ Rd w Ai (ints rows[i])
theorem MatRd.ext {w w' : World} {A : Option Addr} {rows : List (List Int)} (h : MatRd w A rows) (hb : Below w.heap.size w w') : MatRd w' A rows := by
  intro hn
  obtain ⟨g, e, hg, hc⟩ := h hn
  refine ⟨g, e, Nat.lt_of_lt_of_le hg hb.size, fun i hi => ?_⟩
  obtain ⟨Ai, ci, h1, h2⟩ := hc i hi
  exact ⟨Ai, ci, (hb.cell (p := ⟨g, _, none⟩) hg).trans h1, h2.ext hb⟩
theorem MatRd.drewN {w : World} {A : Option Addr} {rows : List (List Int)} (h : MatRd w A rows) (k : Nat) : MatRd (w.drewN k) A rows := h

/-- A matrix in memory of the law's own, between lo and hi: the outer row's values vs, each row apart from the others. -/
structure MatAt (w : World) (lo hi : Nat) (A : Option Addr) (c : Nat) (vs : List Value) (rows : List (List Int)) : Prop where
  outer : w.ownsRow lo 34 1 (.slice A rows.length c) rows.length vs
  top : ∀ a, A = some a → a.block < hi
  row : ∀ i (h : i < rows.length), ∃ Ai ci, vs[i]? = some (.slice Ai rows[i].length ci) ∧ w.ownsRow lo 2 1 (.slice Ai rows[i].length ci) rows[i].length (ints rows[i]) ∧ ∀ a, Ai = some a → a.block < hi
  apart : ∀ (i j : Nat) (u v : Value) (g : Nat), i ≠ j → vs[i]? = some u → vs[j]? = some v → u.ownBlock = some g → v.ownBlock ≠ some g
theorem MatAt.rd {w : World} {lo hi : Nat} {A : Option Addr} {c : Nat} {vs : List Value} {rows : List (List Int)} (h : MatAt w lo hi A c vs rows) : MatRd w A rows := by
  intro hn
  rcases h.outer.2 with ⟨_, h0⟩ | ⟨g, cap, cur, hv, _⟩
  · omega
  · simp only [Value.slice.injEq] at hv
    obtain ⟨rfl, _, rfl⟩ := hv
    refine ⟨g, rfl, (h.outer.lt g rfl).2, fun i hi => ?_⟩
    obtain ⟨Ai, ci, h1, h2, _⟩ := h.row i hi
    exact ⟨Ai, ci, (h.outer.cellAt i (by omega)).trans h1, Rd.of_own h2⟩
theorem MatAt.ext {w w' : World} {lo hi : Nat} {A : Option Addr} {c : Nat} {vs : List Value} {rows : List (List Int)} (h : MatAt w lo hi A c vs rows) (hb : Below w.heap.size w w') : MatAt w' lo hi A c vs rows := by
  refine ⟨own_ext hb h.outer, h.top, fun i hi => ?_, h.apart⟩
  obtain ⟨Ai, ci, h1, h2, h3⟩ := h.row i hi
  exact ⟨Ai, ci, h1, own_ext hb h2, h3⟩
/-- Blocks outside have turned. -/
theorem MatAt.keep {w w' : World} {lo hi : Nat} {A : Option Addr} {c : Nat} {vs : List Value} {rows : List (List Int)} {S : Nat → Prop} (h : MatAt w lo hi A c vs rows) (hc : Chg S w w') (hS : ∀ b, lo ≤ b → b < hi → ¬ S b) : MatAt w' lo hi A c vs rows := by
  have one : ∀ {e : TypeId} {B : Option Addr} {n d : Nat} {xs : List Value}, w.ownsRow lo e 1 (.slice B n d) n xs → (∀ a, B = some a → a.block < hi) → w'.ownsRow lo e 1 (.slice B n d) n xs := by
    intro e B n d xs ho ht
    refine hc.own ho (fun g hg => ?_)
    cases B with
    | none => simp [Value.ownBlock] at hg
    | some a =>
      have hl := (ho.lt g hg).1
      simp [Value.ownBlock] at hg
      exact hS g hl (by rw [← hg]; exact ht a rfl)
  refine ⟨one h.outer h.top, h.top, fun i hi => ?_, h.apart⟩
  obtain ⟨Ai, ci, h1, h2, h3⟩ := h.row i hi
  exact ⟨Ai, ci, h1, one h2 h3, h3⟩
/-- A row has turned. -/
theorem MatAt.turn {w w' : World} {lo hi : Nat} {A : Option Addr} {c : Nat} {vs : List Value} {rows : List (List Int)} (h : MatAt w lo hi A c vs rows) {i : Nat} (hi' : i < rows.length) {Ai : Option Addr} {ci : Nat} (hv : vs[i]? = some (.slice Ai rows[i].length ci)) (ht : ∀ a, Ai = some a → a.block < hi)
    (r : List Int) (hr : r.length = rows[i].length) (ho : w'.ownsRow lo 2 1 (.slice Ai rows[i].length ci) rows[i].length (ints r)) (hc : Chg (fun b => ∃ a, Ai = some a ∧ b = a.block) w w') : MatAt w' lo hi A c vs (rows.set i r) := by
  obtain ⟨Ai', ci', hv', ho', _⟩ := h.row i hi'
  rw [hv] at hv'
  obtain ⟨rfl, rfl⟩ : Ai = Ai' ∧ ci = ci' := by simpa using hv'
  have hS : ∀ b, (∃ a, Ai = some a ∧ b = a.block) → (Value.slice Ai rows[i].length ci).ownBlock = some b := by
    rintro b ⟨a, rfl, rfl⟩; rfl
  refine ⟨?_, h.top, fun j hj => ?_, h.apart⟩
  · rw [List.length_set]
    exact hc.own h.outer (fun g hg hb => own_own_ne h.outer ho' (by decide) hg (hS g hb))
  · rw [List.length_set] at hj
    by_cases e : j = i
    · subst e
      refine ⟨Ai, ci, ?_, ?_, ht⟩
      · rw [List.getElem_set_self, hr]; exact hv
      · rw [List.getElem_set_self, hr]; exact ho
    · obtain ⟨Aj, cj, h1, h2, h3⟩ := h.row j hj
      refine ⟨Aj, cj, ?_, ?_, h3⟩
      · rw [List.getElem_set_ne (Ne.symm e)]; exact h1
      · rw [List.getElem_set_ne (Ne.symm e)]
        exact hc.own h2 (fun g hg hb => h.apart j i _ _ g e h1 hv hg (hS g hb))

set_option maxHeartbeats 400000 in
theorem eqMat_any (A B : Option Addr) (c d : Nat) (rows : List (List Int)) (w : World) (hA : MatRd w A rows) (hB : MatRd w B rows) (hn : rows.length ≤ 1000000000) (hr : ∀ i (h : i < rows.length), rows[i].length ≤ 1000000000) :
    Calls Try.prog 27 #[.slice A rows.length c, .slice B rows.length d] w fun e w' => e = .returned (.bool true) ∧ ∃ k, w' = w.drewN k := by
  have XA := Lib.hid (fun k => hA.drewN k)
  have XB := Lib.hid (fun k => hB.drewN k)
  have HR := Lib.hid hr
  obtain ⟨n, hnL⟩ : ∃ n, rows.length = n := ⟨_, rfl⟩
  have t0 : ((n : Int) != n) = false := by simp
  rw [hnL] at hn ⊢
  clear hA hB hr
  go_enter Try.func27, Try.ntmps27
  go_wp2_with fail
  go_loopw [5] (fun i wr => ∃ k j : Nat, k ≤ n ∧ i = .int .i64 k ∧ wr = w.drewN j) (fun i _ => n - (intOf i).toNat)
  case atStart => exact ⟨0, 0, Nat.zero_le _, rfl, rfl⟩
  case round =>
    obtain ⟨k, j, hk, rfl, hwr⟩ := hrel
    by_cases hlt : k < n
    · have MA : MatRd wr A rows := hwr ▸ XA.out j
      have MB : MatRd wr B rows := hwr ▸ XB.out j
      have HW := Lib.hid hwr
      clear hwr
      obtain ⟨g, rfl, hg, hcA⟩ := MA (by omega)
      obtain ⟨g', rfl, hg', hcB⟩ := MB (by omega)
      obtain ⟨A1, c1, k1, r1⟩ := hcA k (by omega)
      obtain ⟨A2, c2, k2, r2⟩ := hcB k (by omega)
      have hrk := HR.out k (by omega)
      clear hcA hcB MA MB
      have EQ := Lib.hid (fun j' => eqInts_any A1 A2 c1 c2 rows[k] (wr.drewN j') (r1.drewN j') (r2.drewN j') hrk)
      generalize rows[k] = x at *
      have i0 : (0 : Int) ≤ (k : Int) := by omega
      have i1 : (k : Int) < (n : Int) := by omega
      go_wp2_with fail
      go_quiet ((go_at_call 58; exact Calls.quiet_of (EQ.out _)))
      go_wp2_with fail
      go_roundw
      case rel => exact ⟨k + 1, j + nq, by omega, by go_num, by rw [HW.out, World.drewN_drewN]⟩
      case measure => simp [intOf]; omega
    · obtain rfl : k = n := by omega
      go_wp2_with fail
      go_ret
      exact ⟨rfl, j, rfl⟩

/-- The numbers in the first k rows. -/
def tot (rows : List (List Int)) (k : Nat) : Nat := ((rows.take k).map List.length).sum
theorem tot_zero (rows : List (List Int)) : tot rows 0 = 0 := by simp [tot]
theorem tot_succ {rows : List (List Int)} {k : Nat} (h : k < rows.length) : tot rows (k + 1) = tot rows k + rows[k].length := by
  unfold tot
  rw [List.take_add_one, List.getElem?_eq_getElem h, List.map_append, List.sum_append]
  simp only [Option.toList, List.map_cons, List.map_nil, List.sum_cons, List.sum_nil, Nat.add_zero]
theorem tot_le {rows : List (List Int)} {k : Nat} (h : k ≤ rows.length) : tot rows k ≤ tot rows rows.length := by
  have e : ∀ d, k + d ≤ rows.length → tot rows k ≤ tot rows (k + d) := by
    intro d
    induction d with
    | zero => intro _; exact Nat.le_refl _
    | succ d ih =>
      intro hd
      have h1 := ih (by omega)
      rw [show k + (d + 1) = k + d + 1 from rfl, tot_succ (by omega)]
      omega
  have := e (rows.length - k) (by omega)
  rwa [show k + (rows.length - k) = rows.length by omega] at this
/-- The rows, the first k of them marked. -/
def mkRows (k0 : Nat) (rows : List (List Int)) (k : Nat) : List (List Int) := (List.range rows.length).map fun i => if i < k then marks (k0 + tot rows i) (rows.getD i []).length else rows.getD i []
theorem mkRows_length (k0 : Nat) (rows : List (List Int)) (k : Nat) : (mkRows k0 rows k).length = rows.length := by simp [mkRows]
theorem mkRows_at {k0 : Nat} {rows : List (List Int)} {k i : Nat} (h : i < rows.length) : (mkRows k0 rows k)[i]'(by rw [mkRows_length]; exact h) = if i < k then marks (k0 + tot rows i) rows[i].length else rows[i] := by
  simp [mkRows, List.getD_eq_getElem?_getD, h]
theorem mkRows_row {k0 : Nat} {rows : List (List Int)} {k i : Nat} (h : i < rows.length) : ((mkRows k0 rows k)[i]'(by rw [mkRows_length]; exact h)).length = rows[i].length := by
  rw [mkRows_at h]; split
  · rw [marks_length]
  · rfl
theorem mkRows_zero (k0 : Nat) (rows : List (List Int)) : mkRows k0 rows 0 = rows := by
  apply List.ext_getElem
  · rw [mkRows_length]
  · intro i h1 h2; rw [mkRows_at h2]; rfl
theorem mkRows_set {k0 : Nat} {rows : List (List Int)} {k : Nat} (h : k < rows.length) : (mkRows k0 rows k).set k (marks (k0 + tot rows k) rows[k].length) = mkRows k0 rows (k + 1) := by
  apply List.ext_getElem
  · rw [List.length_set, mkRows_length, mkRows_length]
  · intro i h1 h2
    have hi : i < rows.length := by rw [mkRows_length] at h2; exact h2
    rw [List.getElem_set, mkRows_at hi]
    by_cases e : k = i
    · subst e; rw [if_pos rfl, mkRows_at hi, if_pos (Nat.lt_succ_self k)]
    · rw [if_neg e, mkRows_at hi]
      by_cases h3 : i < k
      · rw [if_pos h3, if_pos (by omega)]
      · rw [if_neg h3, if_neg (by omega)]

set_option maxHeartbeats 400000 in
theorem markMat_any (lo hi : Nat) (A : Option Addr) (c : Nat) (vs : List Value) (rows : List (List Int)) (k0 : Nat) (w : World) (hA : MatAt w lo hi A c vs rows) (hn : rows.length ≤ 1000000000) (ht : tot rows rows.length ≤ 1000000000) (hk0 : k0 ≤ 1000000000) :
    Calls Try.prog 30 #[.slice A rows.length c, .int .i64 k0] w fun e w' => e = .returned (.int .i64 ((k0 + tot rows rows.length : Nat) : Int)) ∧
      MatAt w' lo hi A c vs (mkRows k0 rows rows.length) ∧ Chg (fun b => lo ≤ b ∧ b < hi) w w' := by
  have ZH := Lib.hid (mkRows_zero k0 rows)
  have SH := Lib.hid (fun k (h : k < rows.length) => mkRows_set (k0 := k0) h)
  have TS := Lib.hid (fun k (h : k < rows.length) => tot_succ h)
  have TL := Lib.hid (fun k (h : k ≤ rows.length) => tot_le h)
  have A0 : MatAt w lo hi A c vs (mkRows k0 rows 0) := by rw [ZH.out]; exact hA
  have LH := Lib.hid (fun k => mkRows_length k0 rows k)
  have RH := Lib.hid (fun k i (h : i < rows.length) => mkRows_row (k0 := k0) (k := k) h)
  have GH := Lib.hid (fun k (h : k < rows.length) => (show (mkRows k0 rows k)[k]'(by rw [mkRows_length]; exact h) = rows[k] by rw [mkRows_at h, if_neg (Nat.lt_irrefl _)]))
  clear hA
  obtain ⟨n, hnL⟩ : ∃ n, rows.length = n := ⟨_, rfl⟩
  have HN := Lib.hid hnL
  rw [hnL] at hn ht ⊢
  clear hnL
  go_enter Try.func30, Try.ntmps30
  go_wp2_with fail
  go_loopw [1, 5] (fun v i wr => ∃ k : Nat, k ≤ n ∧ i = .int .i64 k ∧ v = .int .i64 ((k0 + tot rows k : Nat) : Int) ∧ MatAt wr lo hi A c vs (mkRows k0 rows k) ∧ Chg (fun b => lo ≤ b ∧ b < hi) w wr) (fun _ i _ => n - (intOf i).toNat)
  case atStart => exact ⟨0, Nat.zero_le _, rfl, rfl, A0, Chg.refl _ _⟩
  case round =>
    obtain ⟨k, hk, rfl, rfl, hm, hb⟩ := hrel
    clear A0
    by_cases hlt : k < n
    · have hk' : k < rows.length := by have := HN.out; omega
      obtain ⟨g, rfl, hg, hcA⟩ := hm.rd (by rw [LH.out k]; omega)
      obtain ⟨Ak, ck, hv, ho, hthi⟩ := hm.row k (by rw [LH.out k]; exact hk')
      have hcell := hm.outer.cellAt k (by rw [LH.out k]; omega)
      rw [hv] at hcell
      have e1 := RH.out k k hk'
      have e2 := GH.out k hk'
      rw [e1] at hv ho hcell
      rw [e2] at ho
      have t1 := TS.out k hk'
      have t2 := TL.out (k + 1) (by omega)
      rw [HN.out] at t2
      have MK := Lib.hid (markInts_any lo Ak ck rows[k] (k0 + tot rows k) wr ho (by omega) (by omega))
      have TN : Hid (∀ w', w'.ownsRow lo 2 1 (.slice Ak rows[k].length ck) rows[k].length (ints (marks (k0 + tot rows k) rows[k].length)) → Chg (fun b => ∃ a, Ak = some a ∧ b = a.block) wr w' → MatAt w' lo hi (some ⟨g, 0, none⟩) c vs (mkRows k0 rows (k + 1)) ∧ Chg (fun b => lo ≤ b ∧ b < hi) wr w') := by
        intro w' h1 h2
        refine ⟨?_, h2.mono (fun b hb => ?_)⟩
        · rw [← SH.out k hk']
          refine hm.turn (by rw [LH.out k]; exact hk') (by rw [e1]; exact hv) hthi _ (by rw [marks_length, e1]) (by rw [e1]; exact h1) h2
        · obtain ⟨a, rfl, rfl⟩ := hb
          exact ⟨(ho.lt a.block rfl).1, hthi a rfl⟩
      clear hcA hv ho hm e1 e2
      have i0 : (0 : Int) ≤ (k : Int) := by omega
      have i1 : (k : Int) < (n : Int) := by omega
      generalize rows[k].length = m at *
      generalize marks (k0 + tot rows k) m = mm at *
      go_wp2_with fail
      refine MK.out.mono ?_
      rintro e w' ⟨rfl, h1, h2⟩
      have HT := Lib.hid (TN.out w' h1 h2)
      have T1 := Lib.hid t1
      clear h1 h2 t1 t2 TN MK
      go_wp2_with fail
      go_roundw
      case rel => exact ⟨k + 1, by omega, by go_num, by rw [T1.out]; simp [Int.add_assoc], HT.out.1, hb.trans HT.out.2⟩
      case measure => simp [intOf]; omega
    · obtain rfl : k = n := by omega
      go_wp2_with fail
      go_ret
      exact ⟨rfl, hm, hb⟩

set_option maxHeartbeats 400000 in
theorem heldMat_any (A : Option Addr) (c : Nat) (rows : List (List Int)) (k0 : Nat) (w : World) (hA : MatRd w A (mkRows k0 rows rows.length)) (hn : rows.length ≤ 1000000000) (ht : tot rows rows.length ≤ 1000000000) (hk0 : k0 ≤ 1000000000) :
    Calls Try.prog 31 #[.slice A rows.length c, .int .i64 k0] w fun e w' => e = .returned (.int .i64 ((k0 + tot rows rows.length : Nat) : Int)) ∧ w = w' := by
  have TS := Lib.hid (fun k (h : k < rows.length) => tot_succ h)
  have TL := Lib.hid (fun k (h : k ≤ rows.length) => tot_le h)
  have CH := Lib.hid (show 0 < rows.length → ∃ g, A = some ⟨g, 0, none⟩ ∧ g < w.heap.size ∧ ∀ i (h : i < rows.length), ∃ Ai ci, w.cell? ⟨g, i, none⟩ = some (.slice Ai rows[i].length ci) ∧ Rd w Ai (ints (marks (k0 + tot rows i) rows[i].length)) from by
    intro h0
    obtain ⟨g, e, hg, hc⟩ := hA (by rw [mkRows_length]; exact h0)
    refine ⟨g, e, hg, fun i hi => ?_⟩
    obtain ⟨Ai, ci, h1, h2⟩ := hc i (by rw [mkRows_length]; exact hi)
    rw [mkRows_row hi] at h1
    rw [mkRows_at hi, if_pos hi] at h2
    exact ⟨Ai, ci, h1, h2⟩)
  clear hA
  obtain ⟨n, hnL⟩ : ∃ n, rows.length = n := ⟨_, rfl⟩
  have HN := Lib.hid hnL
  rw [hnL] at hn ht ⊢
  clear hnL
  go_enter Try.func31, Try.ntmps31
  go_wp2_with fail
  go_loop [1, 5] (fun v i => ∃ k : Nat, k ≤ n ∧ i = .int .i64 k ∧ v = .int .i64 ((k0 + tot rows k : Nat) : Int)) (fun _ i => n - (intOf i).toNat)
  case atStart => exact ⟨0, Nat.zero_le _, rfl, rfl⟩
  case round =>
    obtain ⟨k, hk, rfl, rfl⟩ := hrel
    by_cases hlt : k < n
    · have hk' : k < rows.length := by have := HN.out; omega
      have CC := CH.out
      obtain ⟨g, rfl, hg, hcA⟩ := CC (by omega)
      obtain ⟨Ak, ck, c1, r1⟩ := hcA k hk'
      have t1 := TS.out k hk'
      have t2 := TL.out (k + 1) (by omega)
      rw [HN.out] at t2
      have HD := Lib.hid (heldInts_any Ak ck rows[k].length (k0 + tot rows k) w r1 (by omega) (by omega))
      clear hcA CC r1
      have i0 : (0 : Int) ≤ (k : Int) := by omega
      have i1 : (k : Int) < (n : Int) := by omega
      generalize rows[k].length = m at *
      have i2 : ¬ ((k0 + tot rows k + m : Nat) : Int) < 0 := by omega
      go_wp2_with fail
      refine HD.out.mono ?_
      rintro e w' ⟨rfl, rfl⟩
      have T1 := Lib.hid t1
      clear t1 t2 HD
      go_wp2_with fail
      go_round
      case rel => exact ⟨k + 1, by omega, by go_num, by rw [T1.out]; simp [Int.add_assoc]⟩
      case measure => simp [intOf]; omega
    · obtain rfl : k = n := by omega
      go_wp2_with fail
      go_ret
      exact ⟨rfl, rfl⟩
end Go.Proofs.Ytkamkjbllmgifaa

namespace Go.Proofs.Ytkamkjbllmgifaa
open Go.RowKit

def MatRdA (w : World) (A : Option Addr) (rows : List (List Int)) : Prop :=
  0 < rows.length → ∃ a, A = some a ∧ a.block < w.heap.size ∧ ∀ i (h : i < rows.length), ∃ Ai ci, w.cell? (a.add i) = some (.slice Ai rows[i].length ci) ∧ RdA w Ai (ints rows[i])
theorem MatRdA.ext {w w' : World} {A : Option Addr} {rows : List (List Int)} (h : MatRdA w A rows) (hb : Below w.heap.size w w') : MatRdA w' A rows := by
  intro hn
  obtain ⟨g, e, hg, hc⟩ := h hn
  refine ⟨g, e, Nat.lt_of_lt_of_le hg hb.size, fun i hi => ?_⟩
  obtain ⟨Ai, ci, h1, h2⟩ := hc i hi
  exact ⟨Ai, ci, (hb.cell (by rw [Addr.add_block']; exact hg)).trans h1, h2.ext hb⟩
theorem RdA.int {w : World} {A : Option Addr} {L : List Int} (h : RdA w A (ints L)) : 0 < L.length → ∃ a, A = some a ∧ a.block < w.heap.size ∧ ∀ i (h : i < L.length), w.cell? (a.add i) = some (.int .i64 L[i]) := by
  intro hn
  obtain ⟨a, e, ha, hc⟩ := h (by simpa [ints] using hn)
  exact ⟨a, e, ha, fun i hi => by rw [hc i (by simpa [ints] using hi)]; simp [ints]⟩

theorem szInts_any (A : Option Addr) (n c l0 : Nat) (hl : l0 ≤ 1048576) (hn : n ≤ maxLen) (w : World) :
    Calls Try.prog 93 #[.slice A n c, .int .i64 l0] w fun e w' => (∃ r : Int, e = .returned (.int .i64 r) ∧ (r < 0 ∨ n ≤ l0 ∧ r = ((l0 - n : Nat) : Int))) ∧ w = w' := by
  unfold maxLen at hn
  have i0 : IntKind.i64.wrap ((l0 : Int) - n) = (l0 : Int) - n := IntWalk.i64_in _ (by omega)
  by_cases h1 : (l0 : Int) - n < 0
  · go_enter Try.func93, Try.ntmps93
    go_wp2_with fail
    go_ret
    exact ⟨⟨-1, rfl, .inl (by decide)⟩, rfl⟩
  · have H1 := Lib.hid h1
    go_enter Try.func93, Try.ntmps93
    go_wp2_with fail
    go_ret
    exact ⟨⟨(l0 : Int) - n, rfl, .inr ⟨by have := H1.out; omega, by have := H1.out; omega⟩⟩, rfl⟩

set_option maxHeartbeats 400000 in
theorem toInts_any (A : Option Addr) (c : Nat) (rows : List Int) (w : World) (h : RdA w A (ints rows)) (hn : rows.length ≤ 1048576) :
    Calls Try.prog 95 #[.slice A rows.length c] w fun e w' => ∃ A' c', e = .returned (.slice A' rows.length c') ∧
      w'.ownsRow w.heap.size 2 1 (.slice A' rows.length c') rows.length (ints rows) ∧ Below w.heap.size w w' := by
  obtain ⟨i0, hi, hz0, hz1, hz2⟩ := info_parts intT.info
  have EX := Lib.hid (fun V (hb : Below w.heap.size w V) => (h.ext hb).int)
  clear h
  have hlen : (ints rows).length = rows.length := by simp [ints]
  have CP := Lib.hid (fun k hk => cpTo_succ (.int .i64 0) (ints rows) k hk)
  have CA := Lib.hid (cpTo_all (.int .i64 0) (ints rows))
  have CL := Lib.hid (fun k h => cpTo_length (.int .i64 0) (ints rows) k h)
  obtain ⟨n, hnL⟩ : ∃ n, rows.length = n := ⟨_, rfl⟩
  rw [hnL] at hn hlen ⊢
  have hmk : (Instr.makeSlice 34 (.int .i64 (n : Int)) (.int .i64 (n : Int))).run Try.prog w = .ok (.slice (some ⟨w.heap.size, 0, none⟩) n n) (w.alloc (.cells (madeCells #[.int .i64 0] n) 2)) := by
    have h := run_make (P := Try.prog) w 34 2 i0 _ Try.underlying34 hi hz0 .i64 .i64 (n : Int) (n : Int) (by omega) (Int.le_refl _) (by rw [hz2]; omega) (by omega)
    rw [h, hz1, Int.toNat_natCast]
    show Result.ok _ (w.alloc (.cells (madeCells #[.int .i64 0] (n * 1)) _)) = _
    rw [Nat.mul_one]
  have hown0 := own_made w 2 (.int .i64 0) n (by unfold maxLen; omega)
  rw [show List.replicate n (Value.int .i64 0) = cpTo (.int .i64 0) (ints rows) 0 by rw [cpTo_zero, hlen]] at hown0
  have hb0 : Below w.heap.size w (w.alloc (.cells (madeCells #[.int .i64 0] n) 2)) := Ext.more (Ext.refl _) _
  clear hi hz0 hz1 hz2
  go_enter Try.func95, Try.ntmps95
  go_wp2_with fail
  generalize w.alloc (.cells (madeCells #[.int .i64 0] n) 2) = w0 at *
  clear hmk
  obtain ⟨B, hB⟩ : ∃ B, w.heap.size = B := ⟨_, rfl⟩
  rw [hB] at hown0 hb0 EX ⊢
  have HLEN := Lib.hid hlen
  have HNL := Lib.hid hnL
  clear hlen hnL
  go_loopw [4] (fun i wr => ∃ k : Nat, k ≤ n ∧ i = .int .i64 k ∧ wr.ownsRow B 2 1 (.slice (some ⟨B, 0, none⟩) n n) n (cpTo (.int .i64 0) (ints rows) k) ∧ Below B w wr) (fun i _ => n - (intOf i).toNat)
  case atStart => exact ⟨0, Nat.zero_le _, rfl, hown0, hb0⟩
  case round =>
    obtain ⟨k, hk, rfl, hown, hb⟩ := hrel
    clear hown0 hb0
    by_cases hlt : k < n
    · have X := EX.out wr hb
      obtain ⟨a, rfl, hg, hc⟩ := X (by have := HNL.out; omega)
      have c1 := hc k (by have := HNL.out; omega)
      have c2 := hown.cellAt k (by omega)
      have f2 := hown.frozenAt k
      have e1 := CP.out k (by have := HLEN.out; omega)
      rw [show (ints rows)[k]'(by have := HLEN.out; omega) = .int .i64 (rows[k]'(by have := HNL.out; omega)) by simp [ints]] at e1
      have hl1 : k < (cpTo (.int .i64 0) (ints rows) k).length := by rw [CL.out k (by have := HLEN.out; omega)]; have := HLEN.out; omega
      have hl2 : k < rows.length := by have := HNL.out; omega
      rw [List.getElem?_eq_getElem hl1] at c2
      have hst := hown.stored k (.int .i64 (rows[k]'(by have := HNL.out; omega)))
      rw [e1] at hst
      clear hc X e1
      generalize (cpTo (.int .i64 0) (ints rows) k)[k]'hl1 = u at *
      generalize rows[k]'hl2 = r at *
      have HST := Lib.hid hst
      have i0 : (0 : Int) ≤ (k : Int) := by omega
      have i1 : (k : Int) < (n : Int) := by omega
      clear hst hown
      go_wp2_with fail
      go_roundw
      case rel => exact ⟨k + 1, by omega, by go_num, HST.out.1, hb.setCell (p := ⟨B, k, none⟩) (Nat.le_refl _) _⟩
      case measure => simp [intOf]; omega
    · obtain rfl : k = n := by omega
      have e : cpTo (.int .i64 0) (ints rows) k = ints rows := by have h1 := CA.out; have h2 := HLEN.out; rw [h2] at h1; exact h1
      rw [e] at hown
      clear e
      go_wp2_with fail
      go_ret
      exact ⟨_, _, rfl, by rw [hB]; exact hown, by rw [hB]; exact hb⟩


end Go.Proofs.Ytkamkjbllmgifaa

namespace Go.Proofs.Ytkamkjbllmgifaa
open Go.RowKit

set_option maxHeartbeats 400000 in
theorem szMat_any (A : Option Addr) (c : Nat) (rows : List (List Int)) (l0 : Nat) (hl : l0 ≤ 1048576) (w : World) (h : MatRdA w A rows) (hn : rows.length ≤ maxLen) (hsz : ∀ r ∈ rows, r.length ≤ maxLen) :
    Calls Try.prog 54 #[.slice A rows.length c, .int .i64 l0] w fun e w' => (∃ r : Int, e = .returned (.int .i64 r) ∧ (r < 0 ∨ rows.length + tot rows rows.length ≤ l0 ∧ r = ((l0 - (rows.length + tot rows rows.length) : Nat) : Int))) ∧ w = w' := by
  unfold maxLen at hn
  have HX := Lib.hid h
  have SZ := Lib.hid hsz
  have TS := Lib.hid (fun k (h : k < rows.length) => tot_succ h)
  have T0 := Lib.hid (tot_zero rows)
  clear h hsz
  obtain ⟨n, hnL⟩ : ∃ n, rows.length = n := ⟨_, rfl⟩
  have HN := Lib.hid hnL
  rw [hnL] at hn ⊢
  clear hnL
  have i0 : IntKind.i64.wrap ((l0 : Int) - n) = (l0 : Int) - n := IntWalk.i64_in _ (by omega)
  by_cases h1 : (l0 : Int) - n < 0
  · go_enter Try.func54, Try.ntmps54
    go_wp2_with fail
    go_ret
    exact ⟨⟨-1, rfl, .inl (by decide)⟩, rfl⟩
  · have HLE : Hid (n ≤ l0) := by show n ≤ l0; omega
    go_enter Try.func54, Try.ntmps54
    go_wp2_with fail
    go_loop [1, 5] (fun v i => ∃ k l : Nat, k ≤ n ∧ i = .int .i64 k ∧ v = .int .i64 l ∧ Hid (n + tot rows k + l = l0) ∧ l ≤ 1048576) (fun _ i => n - (intOf i).toNat)
    case atStart => exact ⟨0, l0 - n, Nat.zero_le _, rfl, by have := HLE.out; rw [show ((l0 - n : Nat) : Int) = (l0 : Int) - n by omega], by have := HLE.out; rw [Hid, T0.out]; omega, by omega⟩
    case round =>
      obtain ⟨k, l, hk, rfl, rfl, hl0, hl1⟩ := hrel
      by_cases hlt : k < n
      · have hk' : k < rows.length := by have := HN.out; omega
        obtain ⟨a, rfl, hg, hc⟩ := HX.out (by omega)
        obtain ⟨Ak, ck, c1, _⟩ := hc k hk'
        have S1 := Lib.hid (szInts_any Ak rows[k].length ck l hl1 (SZ.out _ (List.getElem_mem _)) w)
        have t1 := Lib.hid (TS.out k hk')
        clear hc
        generalize rows[k].length = m at *
        have i2 : (0 : Int) ≤ (k : Int) := by omega
        have i3 : (k : Int) < (n : Int) := by omega
        go_wp2_with fail
        refine S1.out.mono ?_
        rintro e w' ⟨⟨r, rfl, hr⟩, rfl⟩
        by_cases h2 : r < 0
        · clear hr
          go_wp2_with fail
          go_ret
          exact ⟨⟨-1, rfl, .inl (by decide)⟩, rfl⟩
        · obtain ⟨hr1, rfl⟩ : m ≤ l ∧ r = ((l - m : Nat) : Int) := by omega
          clear hr
          go_wp2_with fail
          go_round
          case rel => exact ⟨k + 1, l - m, by omega, by go_num, rfl, by have h3 := t1.out; have h4 := hl0.out; rw [Hid, h3]; omega, by omega⟩
          case measure => simp [intOf]; omega
      · obtain rfl : k = n := by omega
        go_wp2_with fail
        go_ret
        exact ⟨⟨l, rfl, .inr ⟨by have := hl0.out; omega, by have := hl0.out; omega⟩⟩, rfl⟩

/-- A copy of a matrix in the making. -/
structure MatTo (B : Nat) (w : World) (rows : List (List Int)) (us : List Value) (n k : Nat) (wr : World) : Prop where
  outer : wr.ownsRow B 34 1 (.slice (some ⟨B, 0, none⟩) n n) n us
  row : ∀ i (h : i < rows.length), i < k → ∃ Ai ci, us[i]? = some (.slice Ai rows[i].length ci) ∧ wr.ownsRow B 2 1 (.slice Ai rows[i].length ci) rows[i].length (ints rows[i])
  apart : ∀ (i j : Nat) (u v : Value) (g : Nat), i < k → j < k → i ≠ j → us[i]? = some u → us[j]? = some v → u.ownBlock = some g → v.ownBlock ≠ some g
  ext : Below B w wr

theorem MatTo.step {B : Nat} {w : World} {rows : List (List Int)} {us : List Value} {n k : Nat} {wr : World} (h : MatTo B w rows us n k wr) (hB : B ≤ wr.heap.size) (hk : k < rows.length) (hn : rows.length = n) {w' : World} {A' : Option Addr} {c' : Nat}
    (ho : w'.ownsRow wr.heap.size 2 1 (.slice A' rows[k].length c') rows[k].length (ints rows[k])) (hb : Below wr.heap.size wr w') :
    MatTo B w rows (us.set k (.slice A' rows[k].length c')) n (k + 1) (w'.setCell ⟨B, k, none⟩ (.slice A' rows[k].length c')) := by
  have h1 := own_ext hb h.outer
  have h2 := (h1.stored k (.slice A' rows[k].length c')).1
  have hul : us.length = n := by have := h.outer.1; omega
  have hne : (Value.slice A' rows[k].length c').ownBlock ≠ some B := own_own_ne h1 ho (by decide) rfl
  have keep : ∀ {v : Value} {m : Nat} {xs : List Value}, w'.ownsRow B 2 1 v m xs → (w'.setCell ⟨B, k, none⟩ (.slice A' rows[k].length c')).ownsRow B 2 1 v m xs := by
    intro v m xs hv
    exact ((Chg.refl (fun b => b = B) w').store (p := ⟨B, k, none⟩) rfl _).own hv (fun g hg e => own_own_ne h1 hv (by decide) rfl (by rw [hg, e]))
  refine ⟨h2, fun i hi hik => ?_, fun i j u v g hi hj hij hu hv hg => ?_, ?_⟩
  · by_cases e : i = k
    · subst e
      refine ⟨A', c', by rw [List.getElem?_set_self (by omega)], keep (own_base ho hB)⟩
    · obtain ⟨Ai, ci, hx, hy⟩ := h.row i hi (by omega)
      exact ⟨Ai, ci, by rw [List.getElem?_set_ne (Ne.symm e)]; exact hx, keep (own_ext hb hy)⟩
  · by_cases e : i = k
    · subst e
      rw [List.getElem?_set_self (by omega)] at hu
      rw [List.getElem?_set_ne (by omega)] at hv
      obtain rfl := Option.some.inj hu
      obtain ⟨Aj, cj, hx, hy⟩ := h.row j (by omega) (by omega)
      rw [hv] at hx
      obtain rfl := Option.some.inj hx
      intro hg2
      have := (ho.lt g hg).1
      have := (hy.lt g hg2).2
      omega
    · rw [List.getElem?_set_ne (Ne.symm e)] at hu
      by_cases e2 : j = k
      · subst e2
        rw [List.getElem?_set_self (by omega)] at hv
        obtain rfl := Option.some.inj hv
        obtain ⟨Ai, ci, hx, hy⟩ := h.row i (by omega) (by omega)
        rw [hu] at hx
        obtain rfl := Option.some.inj hx
        intro hg2
        have := (ho.lt g hg2).1
        have := (hy.lt g hg).2
        omega
      · rw [List.getElem?_set_ne (Ne.symm e2)] at hv
        exact h.apart i j u v g (by omega) (by omega) hij hu hv hg
  · exact (h.ext.trans (hb.mono hB)).setCell (p := ⟨B, k, none⟩) (Nat.le_refl _) _
end Go.Proofs.Ytkamkjbllmgifaa

namespace Go.Proofs.Ytkamkjbllmgifaa
open Go.RowKit

set_option maxHeartbeats 1000000 in
theorem toMat_any (A : Option Addr) (c : Nat) (rows : List (List Int)) (w : World) (h : MatRdA w A rows) (hn : rows.length ≤ 1048576) (hsz : ∀ r ∈ rows, r.length ≤ 1048576) :
    Calls Try.prog 57 #[.slice A rows.length c] w fun e w' => ∃ A' c' vs, e = .returned (.slice A' rows.length c') ∧ MatAt w' w.heap.size w'.heap.size A' c' vs rows ∧ Below w.heap.size w w' := by
  obtain ⟨i0, hi, hz0, hz1, hz2⟩ := info_parts rowT.info
  have EX := Lib.hid (fun V (hb : Below w.heap.size w V) => h.ext hb)
  have SZ := Lib.hid hsz
  clear h hsz
  obtain ⟨n, hnL⟩ : ∃ n, rows.length = n := ⟨_, rfl⟩
  have HN := Lib.hid hnL
  rw [hnL] at hn
  have hmk : (Instr.makeSlice 24 (.int .i64 (n : Int)) (.int .i64 (n : Int))).run Try.prog w = .ok (.slice (some ⟨w.heap.size, 0, none⟩) n n) (w.alloc (.cells (madeCells #[.slice none 0 0] n) 34)) := by
    have h := run_make (P := Try.prog) w 24 34 i0 _ Try.underlying24 hi hz0 .i64 .i64 (n : Int) (n : Int) (by omega) (Int.le_refl _) (by rw [hz2]; omega) (by omega)
    rw [h, hz1, Int.toNat_natCast]
    show Result.ok _ (w.alloc (.cells (madeCells #[.slice none 0 0] (n * 1)) _)) = _
    rw [Nat.mul_one]
  have hown0 := own_made w 34 (.slice none 0 0) n (by unfold maxLen; omega)
  have M0 : MatTo w.heap.size w rows (List.replicate n (.slice none 0 0)) n 0 (w.alloc (.cells (madeCells #[.slice none 0 0] n) 34)) :=
    ⟨hown0, fun i _ h => absurd h (Nat.not_lt_zero _), fun i _ _ _ _ h => absurd h (Nat.not_lt_zero _), Ext.more (Ext.refl _) _⟩
  have hB0 : w.heap.size ≤ (w.alloc (.cells (madeCells #[.slice none 0 0] n) 34)).heap.size := (Ext.more (Ext.refl w) _).size
  clear hi hz0 hz1 hz2 hown0
  have FIN : Hid (∀ (us : List Value) (w' : World), MatTo w.heap.size w rows us n n w' → ∃ A' c' vs, Ending.returned (.slice (some ⟨w.heap.size, 0, none⟩) n n) = .returned (.slice A' n c') ∧ MatAt w' w.heap.size w'.heap.size A' c' vs rows ∧ Below w.heap.size w w') := by
    intro us w' hm
    refine ⟨some ⟨w.heap.size, 0, none⟩, n, us, rfl, ⟨by rw [hnL]; exact hm.outer, fun a ha => by cases ha; exact (hm.outer.lt _ rfl).2, fun i hi => ?_, fun i j u v g hij hu hv hg => ?_⟩, hm.ext⟩
    · obtain ⟨Ai, ci, h1, h2⟩ := hm.row i hi (by omega)
      exact ⟨Ai, ci, h1, h2, fun a ha => by subst ha; exact (h2.lt _ rfl).2⟩
    · have hul : us.length = n := by have := hm.outer.1; omega
      have hi := (List.getElem?_eq_some_iff.1 hu).1
      have hj := (List.getElem?_eq_some_iff.1 hv).1
      exact hm.apart i j u v g (by omega) (by omega) hij hu hv hg
  rw [hnL]
  clear hnL
  go_enter Try.func57, Try.ntmps57
  go_wp2_with fail
  generalize w.alloc (.cells (madeCells #[.slice none 0 0] n) 34) = w0 at *
  clear hmk
  go_loopw [4] (fun i wr => ∃ (k : Nat) (us : List Value), k ≤ n ∧ i = .int .i64 k ∧ w.heap.size ≤ wr.heap.size ∧ MatTo w.heap.size w rows us n k wr) (fun i _ => n - (intOf i).toNat)
  case atStart => exact ⟨0, _, Nat.zero_le _, rfl, hB0, M0⟩
  case round =>
    obtain ⟨k, us, hk, rfl, hB, hm⟩ := hrel
    clear M0 hB0
    by_cases hlt : k < n
    · have hk' : k < rows.length := by have := HN.out; omega
      obtain ⟨a, rfl, hg, hc⟩ := (EX.out wr hm.ext) (by omega)
      obtain ⟨Ak, ck, c1, r1⟩ := hc k hk'
      have TI := Lib.hid (toInts_any Ak ck rows[k] wr r1 (SZ.out _ (List.getElem_mem _)))
      have HM := Lib.hid hm
      have ST := Lib.hid (fun (w' : World) (A' : Option Addr) (c' : Nat) (ho : w'.ownsRow wr.heap.size 2 1 (.slice A' rows[k].length c') rows[k].length (ints rows[k])) (hb : Below wr.heap.size wr w') => hm.step hB hk' HN.out ho hb)
      have hul : us.length = n := by have := hm.outer.1; omega
      clear hc r1 hm
      have i0 : (0 : Int) ≤ (k : Int) := by omega
      have i1 : (k : Int) < (n : Int) := by omega
      generalize hrk : rows[k].length = m at *
      go_wp2_with fail
      refine TI.out.mono ?_
      rintro e w2 ⟨A2, c2, rfl, ho, hb⟩
      have h1 := own_ext hb HM.out.outer
      have cB := h1.cellAt k (by omega)
      have fB := h1.frozenAt k
      rw [List.getElem?_eq_getElem (by omega)] at cB
      have S2 := Lib.hid (ST.out w2 A2 c2 ho hb)
      have hsz2 := hb.size
      generalize us[k]'(by omega) = u at *
      clear h1 ho hb
      go_wp2_with fail
      go_roundw
      case rel => exact ⟨k + 1, _, by omega, by go_num, by simp [World.setCell]; omega, S2.out⟩
      case measure => simp [intOf]; omega
    · obtain rfl : k = n := by omega
      have HF := Lib.hid (FIN.out us wr hm)
      clear hm
      go_wp2_with fail
      go_ret
      exact HF.out
end Go.Proofs.Ytkamkjbllmgifaa

namespace Go.Proofs.Ytkamkjbllmgifaa
open Go.RowKit

theorem szGrey_any (A : Option Addr) (c : Nat) (rows : List (List Int)) (l0 : Nat) (hl : l0 ≤ 1048576) (w : World) (h : MatRdA w A rows) (hn : rows.length ≤ maxLen) (hsz : ∀ r ∈ rows, r.length ≤ maxLen) :
    Calls Try.prog 24 #[.agg #[.slice A rows.length c], .int .i64 l0] w fun e w' => (∃ r : Int, e = .returned (.int .i64 r) ∧ (r < 0 ∨ rows.length + tot rows rows.length ≤ l0 ∧ r = ((l0 - (rows.length + tot rows rows.length) : Nat) : Int))) ∧ Below w.heap.size w w' := by
  have SZ := Lib.hid (fun V (hb : Below w.heap.size w V) => szMat_any A c rows l0 hl V (h.ext hb) hn hsz)
  clear h hn hsz
  generalize rows.length = n at *
  go_enter Try.func24, Try.ntmps24
  go_wp2_with fail
  refine (SZ.out _ (Ext.more (Ext.refl _) _)).mono ?_
  rintro e w' ⟨⟨r, rfl, hr⟩, rfl⟩
  by_cases h0 : r < 0
  · go_wp2_with fail
    go_ret
    exact ⟨⟨-1, rfl, .inl (by decide)⟩, Ext.more (Ext.refl _) _⟩
  · have HR := Lib.hid hr
    clear hr
    go_wp2_with fail
    go_ret
    exact ⟨⟨r, rfl, HR.out⟩, Ext.more (Ext.refl _) _⟩

theorem eqGrey_any (A B : Option Addr) (c d : Nat) (rows : List (List Int)) (w : World) (hA : MatRd w A rows) (hB : MatRd w B rows) (hn : rows.length ≤ 1000000000) (hr : ∀ i (h : i < rows.length), rows[i].length ≤ 1000000000) :
    Calls Try.prog 28 #[.agg #[.slice A rows.length c], .agg #[.slice B rows.length d]] w fun e w' => e = .returned (.bool true) ∧ Below w.heap.size w w' := by
  have EH := Lib.hid (fun V (hb : Below w.heap.size w V) => eqMat_any A B c d rows V (hA.ext hb) (hB.ext hb) hn hr)
  clear hA hB hr
  generalize rows.length = n at *
  go_enter Try.func28, Try.ntmps28
  go_wp2_with fail
  refine (EH.out _ (Ext.more (Ext.more (Ext.refl _) _) _)).mono ?_
  rintro e w' ⟨rfl, k, rfl⟩
  go_wp2_with fail
  go_ret
  exact ⟨rfl, Ext.drawN (Ext.more (Ext.more (Ext.refl _) _) _) k⟩

theorem markGrey_any (lo hi : Nat) (A : Option Addr) (c : Nat) (vs : List Value) (rows : List (List Int)) (k0 : Nat) (w : World) (hA : MatAt w lo hi A c vs rows) (hn : rows.length ≤ 1000000000) (ht : tot rows rows.length ≤ 1000000000) (hk0 : k0 ≤ 1000000000) :
    Calls Try.prog 29 #[.agg #[.slice A rows.length c], .int .i64 k0] w fun e w' => e = .returned (.int .i64 ((k0 + tot rows rows.length : Nat) : Int)) ∧
      MatAt w' lo hi A c vs (mkRows k0 rows rows.length) ∧ Chg (fun b => lo ≤ b ∧ b < hi) w w' := by
  have MH := Lib.hid (markMat_any lo hi A c vs rows k0 (w.alloc (.cells #[.slice A rows.length c] 26)) (hA.ext (Ext.more (Ext.refl _) _)) hn ht hk0)
  have C0 : Chg (fun b => lo ≤ b ∧ b < hi) w (w.alloc (.cells #[.slice A rows.length c] 26)) := (Chg.refl _ w).ext (Ext.more (Ext.refl _) _)
  clear hA ht
  generalize tot rows rows.length = t at *
  generalize mkRows k0 rows rows.length = rr at *
  generalize rows.length = n at *
  go_enter Try.func29, Try.ntmps29
  go_wp2_with fail
  refine MH.out.mono ?_
  rintro e w' ⟨rfl, hown, hc⟩
  have HH := Lib.hid (And.intro hown (C0.trans hc))
  clear hown hc
  go_wp2_with fail
  go_ret
  exact ⟨rfl, HH.out⟩

theorem heldGrey_any (A : Option Addr) (c : Nat) (rows : List (List Int)) (k0 : Nat) (w : World) (hA : MatRd w A (mkRows k0 rows rows.length)) (hn : rows.length ≤ 1000000000) (ht : tot rows rows.length ≤ 1000000000) (hk0 : k0 ≤ 1000000000) :
    Calls Try.prog 34 #[.agg #[.slice A rows.length c], .int .i64 k0] w fun e w' => e = .returned (.int .i64 ((k0 + tot rows rows.length : Nat) : Int)) ∧ Below w.heap.size w w' := by
  have HH := Lib.hid (heldMat_any A c rows k0 (w.alloc (.cells #[.slice A rows.length c] 26)) (hA.ext (Ext.more (Ext.refl _) _)) hn ht hk0)
  clear hA
  have t0 : ¬ ((k0 + tot rows rows.length : Nat) : Int) < 0 := by omega
  generalize tot rows rows.length = t at *
  generalize rows.length = n at *
  go_enter Try.func34, Try.ntmps34
  go_wp2_with fail
  refine HH.out.mono ?_
  rintro e w' ⟨rfl, rfl⟩
  go_wp2_with fail
  go_ret
  exact ⟨rfl, Ext.more (Ext.refl _) _⟩

set_option maxHeartbeats 400000 in
theorem toGrey_any (A : Option Addr) (c : Nat) (rows : List (List Int)) (w : World) (h : MatRdA w A rows) (hn : rows.length ≤ 1048576) (hsz : ∀ r ∈ rows, r.length ≤ 1048576) :
    Calls Try.prog 26 #[.agg #[.slice A rows.length c]] w fun e w' => ∃ A' c' vs, e = .returned (.agg #[.slice A' rows.length c']) ∧ MatAt w' w.heap.size w'.heap.size A' c' vs rows ∧ Below w.heap.size w w' := by
  have TS := Lib.hid (fun V (hb : Below w.heap.size w V) => toMat_any A c rows V (h.ext hb) hn hsz)
  clear h hsz
  obtain ⟨n, hnL⟩ : ∃ n, rows.length = n := ⟨_, rfl⟩
  rw [hnL] at TS ⊢
  go_enter Try.func26, Try.ntmps26
  go_wp2_with fail
  refine (TS.out _ (Ext.more (Ext.more (Ext.more (Ext.refl _) _) _) _)).mono ?_
  rintro e w2 ⟨A', c', vs, rfl, hm, hb⟩
  have hB1 : Blk (((w.alloc (.cells #[.slice A n c] 47)).alloc (.cells #[.slice none 0 0] 26)).alloc (.cells #[.slice none 0 0] 26)) (w.heap.size + 1) 26 #[.slice none 0 0] := by
    have := (Blk.made (w.alloc (.cells #[.slice A n c] 47)) 26 #[.slice none 0 0]).more (.cells #[.slice none 0 0] 26)
    simpa using this
  have hB2 : Blk (((w.alloc (.cells #[.slice A n c] 47)).alloc (.cells #[.slice none 0 0] 26)).alloc (.cells #[.slice none 0 0] 26)) (w.heap.size + 1 + 1) 26 #[.slice none 0 0] := by
    have := Blk.made ((w.alloc (.cells #[.slice A n c] 47)).alloc (.cells #[.slice none 0 0] 26)) 26 #[.slice none 0 0]
    simpa using this
  have hC1 := hB1.under hb hB1.lt
  have hC2 := hB2.under hb hB2.lt
  have hD2 := hC2.store 0 (.slice A' n c')
  have hD1 := hC1.apart (p := ⟨w.heap.size + 1 + 1, 0, none⟩) (by show w.heap.size + 1 ≠ w.heap.size + 1 + 1; omega) (.slice A' n c')
  have cs := (hD1.store 0 (.slice A' n c')).cell 0
  have c2 := hC2.cell 0
  have f2 := hC2.free 0
  have d1 := hD1.cell 0
  have g1 := hD1.free 0
  have d2 := hD2.cell 0
  simp at c2 d1 d2 cs
  simp only [World.size_alloc] at hm hb
  have HM := Lib.hid hm
  clear hB1 hB2 hC1 hC2 hD1 hD2 hm
  go_wp2_with fail
  refine bodyPost_ret (v := .agg #[.slice A' n c']) (by simp [results, Try.results26, go_sem, cs]) rfl ⟨A', c', vs, rfl, ?_, ?_⟩
  · have hk := HM.out.keep (((Chg.refl (fun b => b < w.heap.size + 1 + 1 + 1) w2).store (p := ⟨w.heap.size + 1 + 1, 0, none⟩) (by show w.heap.size + 1 + 1 < w.heap.size + 1 + 1 + 1; omega) (.slice A' n c')).store (p := ⟨w.heap.size + 1, 0, none⟩) (by show w.heap.size + 1 < w.heap.size + 1 + 1 + 1; omega) (.slice A' n c')) (fun b h1 h2 h3 => by omega)
    have hz : ((w2.setCell ⟨w.heap.size + 1 + 1, 0, none⟩ (.slice A' n c')).setCell ⟨w.heap.size + 1, 0, none⟩ (.slice A' n c')).heap.size = w2.heap.size := by simp [World.setCell]
    rw [hz]
    exact ⟨own_base hk.outer (by omega), hk.top, fun i hi => (by obtain ⟨Ai, ci, h1, h2, h3⟩ := hk.row i hi; exact ⟨Ai, ci, h1, own_base h2 (by omega), h3⟩), hk.apart⟩
  · exact (((Ext.more (Ext.more (Ext.more (Ext.refl w) (.cells #[.slice A n c] 47)) (.cells #[.slice none 0 0] 26)) (.cells #[.slice none 0 0] 26)).trans (hb.mono (by omega))).setCell (p := ⟨w.heap.size + 1 + 1, 0, none⟩) (by show w.heap.size ≤ w.heap.size + 1 + 1; omega) _).setCell (p := ⟨w.heap.size + 1, 0, none⟩) (by show w.heap.size ≤ w.heap.size + 1; omega) _
end Go.Proofs.Ytkamkjbllmgifaa

namespace Go.Proofs.Ytkamkjbllmgifaa
open Go.RowKit

theorem MatAt.push {w1 w2 w3 : World} {lo hi hi2 : Nat} {A : Option Addr} {c : Nat} {vs : List Value} {rows : List (List Int)} (h : MatAt w1 lo hi A c vs rows) (hb : Below w1.heap.size w1 w2) {o : Obj} {Ar : Option Addr} {cr : Nat} {r : List Int}
    (ho : w2.ownsRow hi2 2 1 (.slice Ar r.length cr) r.length (ints r)) (hlo : lo ≤ hi2) (hh : hi ≤ hi2) (hg : (w2.alloc o).grownBy w3 (Value.slice A rows.length c).ownBlock) {g3 cap3 : Nat}
    (hout : w3.ownsRow lo 34 1 (.slice (some ⟨g3, 0, none⟩) (rows.length + 1) cap3) (rows.length + 1) (vs ++ [.slice Ar r.length cr])) :
    MatAt w3 lo w3.heap.size (some ⟨g3, 0, none⟩) cap3 (vs ++ [.slice Ar r.length cr]) (rows ++ [r]) := by
  have hvl : vs.length = rows.length := by have := h.outer.1; omega
  have hout1 := own_ext hb h.outer
  have keep : ∀ {b : Nat} {v : Value} {n : Nat} {xs : List Value}, w2.ownsRow b 2 1 v n xs → w3.ownsRow b 2 1 v n xs := by
    intro b v n xs hv
    refine World.ownsRow.kept (hv.alloc o) hg ?_
    cases e : v.ownBlock with
    | none => exact .inl rfl
    | some g => exact .inr (fun e2 => own_own_ne hv hout1 (by decide) e e2.symm)
  have old : ∀ i (hir : i < rows.length), ∃ Ai ci, vs[i]? = some (.slice Ai rows[i].length ci) ∧ w3.ownsRow lo 2 1 (.slice Ai rows[i].length ci) rows[i].length (ints rows[i]) ∧ ∀ a, Ai = some a → a.block < hi := by
    intro i hir
    obtain ⟨Ai, ci, h1, h2, h3⟩ := h.row i hir
    exact ⟨Ai, ci, h1, keep (own_ext hb h2), h3⟩
  refine ⟨by rw [List.length_append]; exact hout, fun a ha => by cases ha; exact (hout.lt _ rfl).2, fun i hi' => ?_, fun i j u v g hij hu hv hg' => ?_⟩
  · by_cases e : i < rows.length
    · obtain ⟨Ai, ci, h1, h2, h3⟩ := old i e
      refine ⟨Ai, ci, ?_, ?_, fun a ha => by subst ha; exact (h2.lt _ rfl).2⟩
      · rw [List.getElem?_append_left (by omega), List.getElem_append_left e]; exact h1
      · rw [List.getElem_append_left e]; exact h2
    · have e' : i = rows.length := by simp at hi'; omega
      subst e'
      refine ⟨Ar, cr, ?_, ?_, fun a ha => by subst ha; exact ((keep ho).lt _ rfl).2⟩
      · rw [List.getElem?_append_right (by omega), hvl]; simp
      · simp only [List.getElem_append_right (Nat.le_refl _), Nat.sub_self, List.getElem_cons_zero]
        exact own_base (keep ho) hlo
  · have last : ∀ (k : Nat) (x : Value), (vs ++ [Value.slice Ar r.length cr])[k]? = some x → (k < rows.length ∧ vs[k]? = some x) ∨ (k = rows.length ∧ x = .slice Ar r.length cr) := by
      intro k x hx
      by_cases e : k < rows.length
      · rw [List.getElem?_append_left (by omega)] at hx
        exact .inl ⟨e, hx⟩
      · rw [List.getElem?_append_right (by omega), hvl] at hx
        have : k - rows.length = 0 := by
          rcases Nat.eq_zero_or_pos (k - rows.length) with h0 | h0
          · exact h0
          · rw [List.getElem?_eq_none (by simp; omega)] at hx; cases hx
        rw [this] at hx
        refine .inr ⟨by omega, by simpa using hx.symm⟩
    have low : ∀ (k : Nat) (x : Value) (g : Nat), k < rows.length → vs[k]? = some x → x.ownBlock = some g → g < hi := by
      intro k x g hk hx hgx
      obtain ⟨Ai, ci, h1, _, h3⟩ := old k hk
      rw [hx] at h1
      obtain rfl := Option.some.inj h1
      cases Ai with
      | none => simp [Value.ownBlock] at hgx
      | some a =>
        simp only [Value.ownBlock, Option.some.injEq] at hgx
        rw [← hgx]; exact h3 a rfl
    rcases last i u hu with ⟨hi1, hu1⟩ | ⟨hi1, rfl⟩
    · rcases last j v hv with ⟨hj1, hv1⟩ | ⟨hj1, rfl⟩
      · exact h.apart i j u v g hij hu1 hv1 hg'
      · intro hg2
        have h1 := low i u g hi1 hu1 hg'
        have h2 := (ho.lt g hg2).1
        omega
    · rcases last j v hv with ⟨hj1, hv1⟩ | ⟨hj1, rfl⟩
      · intro hg2
        have h1 := low j v g hj1 hv1 hg2
        have h2 := (ho.lt g hg').1
        omega
      · omega
theorem MatAt.put {w : World} {lo hi : Nat} {A : Option Addr} {c : Nat} {vs : List Value} {rows : List (List Int)} (h : MatAt w lo hi A c vs rows) {y x : Nat} (hy : y < rows.length) (hx : x < rows[y].length) :
    ∃ g gr cy, A = some ⟨g, 0, none⟩ ∧ g < w.heap.size ∧ w.cell? ⟨g, y, none⟩ = some (.slice (some ⟨gr, 0, none⟩) rows[y].length cy) ∧ lo ≤ gr ∧ gr < hi ∧ gr < w.heap.size ∧ w.frozen? ⟨gr, x, none⟩ = false ∧ w.cell? ⟨gr, x, none⟩ = some (.int .i64 rows[y][x]) ∧
      ∀ v, MatAt (w.setCell ⟨gr, x, none⟩ (.int .i64 v)) lo hi A c vs (rows.set y (rows[y].set x v)) := by
  obtain ⟨g, rfl, hg, _⟩ := h.rd (by omega)
  obtain ⟨Ay, cy, hv, ho, ht⟩ := h.row y hy
  obtain ⟨gr, rfl, hgr, hcr⟩ := (Rd.of_own ho) (by simp [ints]; omega)
  have hcell := (h.outer.cellAt y (by omega)).trans hv
  have hb := ho.lt gr rfl
  refine ⟨g, gr, cy, rfl, hg, hcell, hb.1, ht _ rfl, hb.2, ho.frozenAt x, ?_, fun v => ?_⟩
  · have := ho.cellAt x (by omega)
    rw [this]; simp [ints, hx]
  · refine h.turn hy hv ht _ (by simp) ?_ ((Chg.refl _ _).store (p := ⟨gr, x, none⟩) ⟨_, rfl, rfl⟩ _)
    have := (ho.stored x (.int .i64 v)).1
    rwa [show (ints rows[y]).set x (.int .i64 v) = ints (rows[y].set x v) from by simp [ints, List.map_set]] at this

theorem MatAt.nil (w : World) (lo hi : Nat) (A : Option Addr) (c : Nat) (h : w.ownsRow lo 34 1 (.slice A 0 c) 0 []) (ht : ∀ a, A = some a → a.block < hi) : MatAt w lo hi A c [] [] :=
  ⟨h, ht, fun i hi => absurd hi (Nat.not_lt_zero _), fun i j u v g _ hu => by simp at hu⟩

theorem MatAt.low {w : World} {lo lo' hi hi' : Nat} {A : Option Addr} {c : Nat} {vs : List Value} {rows : List (List Int)} (h : MatAt w lo hi A c vs rows) (h1 : lo' ≤ lo) (h2 : hi ≤ hi') : MatAt w lo' hi' A c vs rows :=
  ⟨own_base h.outer h1, fun a ha => Nat.lt_of_lt_of_le (h.top a ha) h2, fun i hi => (by obtain ⟨Ai, ci, a1, a2, a3⟩ := h.row i hi; exact ⟨Ai, ci, a1, own_base a2 h1, fun a ha => Nat.lt_of_lt_of_le (a3 a ha) h2⟩), h.apart⟩

end Go.Proofs.Ytkamkjbllmgifaa
