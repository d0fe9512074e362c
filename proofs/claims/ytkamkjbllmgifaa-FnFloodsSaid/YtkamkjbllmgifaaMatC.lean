/- Matrices of numbers that came in: their size, a copy of them. Matrices that came in: size and copy. Matrices that came in: the copy. -/
import Derived.Test.YtkamkjbllmgifaaMat
namespace Go.Proofs.Ytkamkjbllmgifaa
open Go.RowKit

def MatRdA (w : World) (A : Option Addr) (rows : List (List Int)) : Prop :=
  0 < rows.length → ∃ a, A = some a ∧ a.block < w.heap.size ∧ ∀ i (h : i < rows.length), ∃ Ai ci, w.cell? (a.add i) = some (.slice Ai rows[i].length ci) ∧ RdA w Ai (ints rows[i])
theorem MatRdA.ext {w w' : World} {A : Option Addr} {rows : List (List Int)} (h : MatRdA w A rows) (hb : Below w.heap.size w w') : MatRdA w' A rows := by
  intro hn
  obtain ⟨g, e, hg, hc⟩ := h hn
  refine ⟨g, e, Nat.lt_of_lt_of_le hg hb.size, fun i hi => ?_⟩
  obtain ⟨Ai, ci, h1, h2⟩ := hc i hi
  exact ⟨Ai, ci, (hb.cell (by rw [Addr.add_block']; exact hg)).trans h1, h2.ext hb⟩
theorem RdA.int {w : World} {A : Option Addr} {L : List Int} (h : RdA w A (ints L)) : 0 < L.length → ∃ a, A = some a ∧ a.block < w.heap.size ∧ ∀ i (h : i < L.length), w.cell? (a.add i) = some (.int .i64 L[i]) := by
  intro hn
  obtain ⟨a, e, ha, hc⟩ := h (by simpa [ints] using hn)
  exact ⟨a, e, ha, fun i hi => by rw [hc i (by simpa [ints] using hi)]; simp [ints]⟩

theorem szInts_any (A : Option Addr) (n c l0 : Nat) (hl : l0 ≤ 1048576) (hn : n ≤ maxLen) (w : World) :
    Calls Try.prog 93 #[.slice A n c, .int .i64 l0] w fun e w' => (∃ r : Int, e = .returned (.int .i64 r) ∧ (r < 0 ∨ n ≤ l0 ∧ r = ((l0 - n : Nat) : Int))) ∧ w = w' := by
  unfold maxLen at hn
  have i0 : IntKind.i64.wrap ((l0 : Int) - n) = (l0 : Int) - n := IntWalk.i64_in _ (by omega)
  by_cases h1 : (l0 : Int) - n < 0
  · go_enter Try.func93, Try.ntmps93
    go_wp2_with fail
    go_ret
    exact ⟨⟨-1, rfl, .inl (by decide)⟩, rfl⟩
  · have H1 := Lib.hid h1
    go_enter Try.func93, Try.ntmps93
    go_wp2_with fail
    go_ret
    exact ⟨⟨(l0 : Int) - n, rfl, .inr ⟨by have := H1.out; omega, by have := H1.out; omega⟩⟩, rfl⟩

set_option maxHeartbeats 400000 in
theorem toInts_any (A : Option Addr) (c : Nat) (rows : List Int) (w : World) (h : RdA w A (ints rows)) (hn : rows.length ≤ 1048576) :
    Calls Try.prog 95 #[.slice A rows.length c] w fun e w' => ∃ A' c', e = .returned (.slice A' rows.length c') ∧
      w'.ownsRow w.heap.size 2 1 (.slice A' rows.length c') rows.length (ints rows) ∧ Below w.heap.size w w' := by
  obtain ⟨i0, hi, hz0, hz1, hz2⟩ := info_parts intT.info
  have EX := Lib.hid (fun V (hb : Below w.heap.size w V) => (h.ext hb).int)
  clear h
  have hlen : (ints rows).length = rows.length := by simp [ints]
  have CP := Lib.hid (fun k hk => cpTo_succ (.int .i64 0) (ints rows) k hk)
  have CA := Lib.hid (cpTo_all (.int .i64 0) (ints rows))
  have CL := Lib.hid (fun k h => cpTo_length (.int .i64 0) (ints rows) k h)
  obtain ⟨n, hnL⟩ : ∃ n, rows.length = n := ⟨_, rfl⟩
  rw [hnL] at hn hlen ⊢
  have hmk : (Instr.makeSlice 34 (.int .i64 (n : Int)) (.int .i64 (n : Int))).run Try.prog w = .ok (.slice (some ⟨w.heap.size, 0, none⟩) n n) (w.alloc (.cells (madeCells #[.int .i64 0] n) 2)) := by
    have h := run_make (P := Try.prog) w 34 2 i0 _ Try.underlying34 hi hz0 .i64 .i64 (n : Int) (n : Int) (by omega) (Int.le_refl _) (by rw [hz2]; omega) (by omega)
    rw [h, hz1, Int.toNat_natCast]
    show Result.ok _ (w.alloc (.cells (madeCells #[.int .i64 0] (n * 1)) _)) = _
    rw [Nat.mul_one]
  have hown0 := own_made w 2 (.int .i64 0) n (by unfold maxLen; omega)
  rw [show List.replicate n (Value.int .i64 0) = cpTo (.int .i64 0) (ints rows) 0 by rw [cpTo_zero, hlen]] at hown0
  have hb0 : Below w.heap.size w (w.alloc (.cells (madeCells #[.int .i64 0] n) 2)) := Ext.more (Ext.refl _) _
  clear hi hz0 hz1 hz2
  go_enter Try.func95, Try.ntmps95
  go_wp2_with fail
  generalize w.alloc (.cells (madeCells #[.int .i64 0] n) 2) = w0 at *
  clear hmk
  obtain ⟨B, hB⟩ : ∃ B, w.heap.size = B := ⟨_, rfl⟩
  rw [hB] at hown0 hb0 EX ⊢
  have HLEN := Lib.hid hlen
  have HNL := Lib.hid hnL
  clear hlen hnL
  go_loopw [4] (fun i wr => ∃ k : Nat, k ≤ n ∧ i = .int .i64 k ∧ wr.ownsRow B 2 1 (.slice (some ⟨B, 0, none⟩) n n) n (cpTo (.int .i64 0) (ints rows) k) ∧ Below B w wr) (fun i _ => n - (intOf i).toNat)
  case atStart => exact ⟨0, Nat.zero_le _, rfl, hown0, hb0⟩
  case round =>
    obtain ⟨k, hk, rfl, hown, hb⟩ := hrel
    clear hown0 hb0
    by_cases hlt : k < n
    · have X := EX.out wr hb
      obtain ⟨a, rfl, hg, hc⟩ := X (by have := HNL.out; omega)
      have c1 := hc k (by have := HNL.out; omega)
      have c2 := hown.cellAt k (by omega)
      have f2 := hown.frozenAt k
      have e1 := CP.out k (by have := HLEN.out; omega)
      rw [show (ints rows)[k]'(by have := HLEN.out; omega) = .int .i64 (rows[k]'(by have := HNL.out; omega)) by simp [ints]] at e1
      have hl1 : k < (cpTo (.int .i64 0) (ints rows) k).length := by rw [CL.out k (by have := HLEN.out; omega)]; have := HLEN.out; omega
      have hl2 : k < rows.length := by have := HNL.out; omega
      rw [List.getElem?_eq_getElem hl1] at c2
      have hst := hown.stored k (.int .i64 (rows[k]'(by have := HNL.out; omega)))
      rw [e1] at hst
      clear hc X e1
      generalize (cpTo (.int .i64 0) (ints rows) k)[k]'hl1 = u at *
      generalize rows[k]'hl2 = r at *
      have HST := Lib.hid hst
      have i0 : (0 : Int) ≤ (k : Int) := by omega
      have i1 : (k : Int) < (n : Int) := by omega
      clear hst hown
      go_wp2_with fail
      go_roundw
      case rel => exact ⟨k + 1, by omega, by go_num, HST.out.1, hb.setCell (p := ⟨B, k, none⟩) (Nat.le_refl _) _⟩
      case measure => simp [intOf]; omega
    · obtain rfl : k = n := by omega
      have e : cpTo (.int .i64 0) (ints rows) k = ints rows := by have h1 := CA.out; have h2 := HLEN.out; rw [h2] at h1; exact h1
      rw [e] at hown
      clear e
      go_wp2_with fail
      go_ret
      exact ⟨_, _, rfl, by rw [hB]; exact hown, by rw [hB]; exact hb⟩


end Go.Proofs.Ytkamkjbllmgifaa

namespace Go.Proofs.Ytkamkjbllmgifaa
open Go.RowKit

set_option maxHeartbeats 400000 in
theorem szMat_any (A : Option Addr) (c : Nat) (rows : List (List Int)) (l0 : Nat) (hl : l0 ≤ 1048576) (w : World) (h : MatRdA w A rows) (hn : rows.length ≤ maxLen) (hsz : ∀ r ∈ rows, r.length ≤ maxLen) :
    Calls Try.prog 54 #[.slice A rows.length c, .int .i64 l0] w fun e w' => (∃ r : Int, e = .returned (.int .i64 r) ∧ (r < 0 ∨ rows.length + tot rows rows.length ≤ l0 ∧ r = ((l0 - (rows.length + tot rows rows.length) : Nat) : Int))) ∧ w = w' := by
  unfold maxLen at hn
  have HX := Lib.hid h
  have SZ := Lib.hid hsz
  have TS := Lib.hid (fun k (h : k < rows.length) => tot_succ h)
  have T0 := Lib.hid (tot_zero rows)
  clear h hsz
  obtain ⟨n, hnL⟩ : ∃ n, rows.length = n := ⟨_, rfl⟩
  have HN := Lib.hid hnL
  rw [hnL] at hn ⊢
  clear hnL
  have i0 : IntKind.i64.wrap ((l0 : Int) - n) = (l0 : Int) - n := IntWalk.i64_in _ (by omega)
  by_cases h1 : (l0 : Int) - n < 0
  · go_enter Try.func54, Try.ntmps54
    go_wp2_with fail
    go_ret
    exact ⟨⟨-1, rfl, .inl (by decide)⟩, rfl⟩
  · have HLE : Hid (n ≤ l0) := by show n ≤ l0; omega
    go_enter Try.func54, Try.ntmps54
    go_wp2_with fail
    go_loop [1, 5] (fun v i => ∃ k l : Nat, k ≤ n ∧ i = .int .i64 k ∧ v = .int .i64 l ∧ Hid (n + tot rows k + l = l0) ∧ l ≤ 1048576) (fun _ i => n - (intOf i).toNat)
    case atStart => exact ⟨0, l0 - n, Nat.zero_le _, rfl, by have := HLE.out; rw [show ((l0 - n : Nat) : Int) = (l0 : Int) - n by omega], by have := HLE.out; rw [Hid, T0.out]; omega, by omega⟩
    case round =>
      obtain ⟨k, l, hk, rfl, rfl, hl0, hl1⟩ := hrel
      by_cases hlt : k < n
      · have hk' : k < rows.length := by have := HN.out; omega
        obtain ⟨a, rfl, hg, hc⟩ := HX.out (by omega)
        obtain ⟨Ak, ck, c1, _⟩ := hc k hk'
        have S1 := Lib.hid (szInts_any Ak rows[k].length ck l hl1 (SZ.out _ (List.getElem_mem _)) w)
        have t1 := Lib.hid (TS.out k hk')
        clear hc
        generalize rows[k].length = m at *
        have i2 : (0 : Int) ≤ (k : Int) := by omega
        have i3 : (k : Int) < (n : Int) := by omega
        go_wp2_with fail
        refine S1.out.mono ?_
        rintro e w' ⟨⟨r, rfl, hr⟩, rfl⟩
        by_cases h2 : r < 0
        · clear hr
          go_wp2_with fail
          go_ret
          exact ⟨⟨-1, rfl, .inl (by decide)⟩, rfl⟩
        · obtain ⟨hr1, rfl⟩ : m ≤ l ∧ r = ((l - m : Nat) : Int) := by omega
          clear hr
          go_wp2_with fail
          go_round
          case rel => exact ⟨k + 1, l - m, by omega, by go_num, rfl, by have h3 := t1.out; have h4 := hl0.out; rw [Hid, h3]; omega, by omega⟩
          case measure => simp [intOf]; omega
      · obtain rfl : k = n := by omega
        go_wp2_with fail
        go_ret
        exact ⟨⟨l, rfl, .inr ⟨by have := hl0.out; omega, by have := hl0.out; omega⟩⟩, rfl⟩

/-- A copy of a matrix in the making. -/
structure MatTo (B : Nat) (w : World) (rows : List (List Int)) (us : List Value) (n k : Nat) (wr : World) : Prop where
  outer : wr.ownsRow B 34 1 (.slice (some ⟨B, 0, none⟩) n n) n us
  row : ∀ i (h : i < rows.length), i < k → ∃ Ai ci, us[i]? = some (.slice Ai rows[i].length ci) ∧ wr.ownsRow B 2 1 (.slice Ai rows[i].length ci) rows[i].length (ints rows[i])
  apart : ∀ (i j : Nat) (u v : Value) (g : Nat), i < k → j < k → i ≠ j → us[i]? = some u → us[j]? = some v → u.ownBlock = some g → v.ownBlock ≠ some g
  ext : Below B w wr

theorem MatTo.step {B : Nat} {w : World} {rows : List (List Int)} {us : List Value} {n k : Nat} {wr : World} (h : MatTo B w rows us n k wr) (hB : B ≤ wr.heap.size) (hk : k < rows.length) (hn : rows.length = n) {w' : World} {A' : Option Addr} {c' : Nat}
    (ho : w'.ownsRow wr.heap.size 2 1 (.slice A' rows[k].length c') rows[k].length (ints rows[k])) (hb : Below wr.heap.size wr w') :
    MatTo B w rows (us.set k (.slice A' rows[k].length c')) n (k + 1) (w'.setCell ⟨B, k, none⟩ (.slice A' rows[k].length c')) := by
  have h1 := own_ext hb h.outer
  have h2 := (h1.stored k (.slice A' rows[k].length c')).1
  have hul : us.length = n := by have := h.outer.1; omega
  have hne : (Value.slice A' rows[k].length c').ownBlock ≠ some B := own_own_ne h1 ho (by decide) rfl
  have keep : ∀ {v : Value} {m : Nat} {xs : List Value}, w'.ownsRow B 2 1 v m xs → (w'.setCell ⟨B, k, none⟩ (.slice A' rows[k].length c')).ownsRow B 2 1 v m xs := by
    intro v m xs hv
    exact ((Chg.refl (fun b => b = B) w').store (p := ⟨B, k, none⟩) rfl _).own hv (fun g hg e => own_own_ne h1 hv (by decide) rfl (by rw [hg, e]))
  refine ⟨h2, fun i hi hik => ?_, fun i j u v g hi hj hij hu hv hg => ?_, ?_⟩
  · by_cases e : i = k
    · subst e
      refine ⟨A', c', by rw [List.getElem?_set_self (by omega)], keep (own_base ho hB)⟩
    · obtain ⟨Ai, ci, hx, hy⟩ := h.row i hi (by omega)
      exact ⟨Ai, ci, by rw [List.getElem?_set_ne (Ne.symm e)]; exact hx, keep (own_ext hb hy)⟩
  · by_cases e : i = k
    · subst e
      rw [List.getElem?_set_self (by omega)] at hu
      rw [List.getElem?_set_ne (by omega)] at hv
      obtain rfl := Option.some.inj hu
      obtain ⟨Aj, cj, hx, hy⟩ := h.row j (by omega) (by omega)
      rw [hv] at hx
      obtain rfl := Option.some.inj hx
      intro hg2
      have := (ho.lt g hg).1
      have := (hy.lt g hg2).2
      omega
    · rw [List.getElem?_set_ne (Ne.symm e)] at hu
      by_cases e2 : j = k
      · subst e2
        rw [List.getElem?_set_self (by omega)] at hv
        obtain rfl := Option.some.inj hv
        obtain ⟨Ai, ci, hx, hy⟩ := h.row i (by omega) (by omega)
        rw [hu] at hx
        obtain rfl := Option.some.inj hx
        intro hg2
        have := (ho.lt g hg2).1
        have := (hy.lt g hg).2
        omega
      · rw [List.getElem?_set_ne (Ne.symm e2)] at hv
        exact h.apart i j u v g (by omega) (by omega) hij hu hv hg
  · exact (h.ext.trans (hb.mono hB)).setCell (p := ⟨B, k, none⟩) (Nat.le_refl _) _
end Go.Proofs.Ytkamkjbllmgifaa

namespace Go.Proofs.Ytkamkjbllmgifaa
open Go.RowKit

set_option maxHeartbeats 1000000 in
theorem toMat_any (A : Option Addr) (c : Nat) (rows : List (List Int)) (w : World) (h : MatRdA w A rows) (hn : rows.length ≤ 1048576) (hsz : ∀ r ∈ rows, r.length ≤ 1048576) :
    Calls Try.prog 57 #[.slice A rows.length c] w fun e w' => ∃ A' c' vs, e = .returned (.slice A' rows.length c') ∧ MatAt w' w.heap.size w'.heap.size A' c' vs rows ∧ Below w.heap.size w w' := by
  obtain ⟨i0, hi, hz0, hz1, hz2⟩ := info_parts rowT.info
  have EX := Lib.hid (fun V (hb : Below w.heap.size w V) => h.ext hb)
  have SZ := Lib.hid hsz
  clear h hsz
  obtain ⟨n, hnL⟩ : ∃ n, rows.length = n := ⟨_, rfl⟩
  have HN := Lib.hid hnL
  rw [hnL] at hn
  have hmk : (Instr.makeSlice 24 (.int .i64 (n : Int)) (.int .i64 (n : Int))).run Try.prog w = .ok (.slice (some ⟨w.heap.size, 0, none⟩) n n) (w.alloc (.cells (madeCells #[.slice none 0 0] n) 34)) := by
    have h := run_make (P := Try.prog) w 24 34 i0 _ Try.underlying24 hi hz0 .i64 .i64 (n : Int) (n : Int) (by omega) (Int.le_refl _) (by rw [hz2]; omega) (by omega)
    rw [h, hz1, Int.toNat_natCast]
    show Result.ok _ (w.alloc (.cells (madeCells #[.slice none 0 0] (n * 1)) _)) = _
    rw [Nat.mul_one]
  have hown0 := own_made w 34 (.slice none 0 0) n (by unfold maxLen; omega)
  have M0 : MatTo w.heap.size w rows (List.replicate n (.slice none 0 0)) n 0 (w.alloc (.cells (madeCells #[.slice none 0 0] n) 34)) :=
    ⟨hown0, fun i _ h => absurd h (Nat.not_lt_zero _), fun i _ _ _ _ h => absurd h (Nat.not_lt_zero _), Ext.more (Ext.refl _) _⟩
  have hB0 : w.heap.size ≤ (w.alloc (.cells (madeCells #[.slice none 0 0] n) 34)).heap.size := (Ext.more (Ext.refl w) _).size
  clear hi hz0 hz1 hz2 hown0
  have FIN : Hid (∀ (us : List Value) (w' : World), MatTo w.heap.size w rows us n n w' → ∃ A' c' vs, Ending.returned (.slice (some ⟨w.heap.size, 0, none⟩) n n) = .returned (.slice A' n c') ∧ MatAt w' w.heap.size w'.heap.size A' c' vs rows ∧ Below w.heap.size w w') := by
    intro us w' hm
    refine ⟨some ⟨w.heap.size, 0, none⟩, n, us, rfl, ⟨by rw [hnL]; exact hm.outer, fun a ha => by cases ha; exact (hm.outer.lt _ rfl).2, fun i hi => ?_, fun i j u v g hij hu hv hg => ?_⟩, hm.ext⟩
    · obtain ⟨Ai, ci, h1, h2⟩ := hm.row i hi (by omega)
      exact ⟨Ai, ci, h1, h2, fun a ha => by subst ha; exact (h2.lt _ rfl).2⟩
    · have hul : us.length = n := by have := hm.outer.1; omega
      have hi := (List.getElem?_eq_some_iff.1 hu).1
      have hj := (List.getElem?_eq_some_iff.1 hv).1
      exact hm.apart i j u v g (by omega) (by omega) hij hu hv hg
  rw [hnL]
  clear hnL
  go_enter Try.func57, Try.ntmps57
  go_wp2_with fail
  generalize w.alloc (.cells (madeCells #[.slice none 0 0] n) 34) = w0 at *
  clear hmk
  go_loopw [4] (fun i wr => ∃ (k : Nat) (us : List Value), k ≤ n ∧ i = .int .i64 k ∧ w.heap.size ≤ wr.heap.size ∧ MatTo w.heap.size w rows us n k wr) (fun i _ => n - (intOf i).toNat)
  case atStart => exact ⟨0, _, Nat.zero_le _, rfl, hB0, M0⟩
  case round =>
    obtain ⟨k, us, hk, rfl, hB, hm⟩ := hrel
    clear M0 hB0
    by_cases hlt : k < n
    · have hk' : k < rows.length := by have := HN.out; omega
      obtain ⟨a, rfl, hg, hc⟩ := (EX.out wr hm.ext) (by omega)
      obtain ⟨Ak, ck, c1, r1⟩ := hc k hk'
      have TI := Lib.hid (toInts_any Ak ck rows[k] wr r1 (SZ.out _ (List.getElem_mem _)))
      have HM := Lib.hid hm
      have ST := Lib.hid (fun (w' : World) (A' : Option Addr) (c' : Nat) (ho : w'.ownsRow wr.heap.size 2 1 (.slice A' rows[k].length c') rows[k].length (ints rows[k])) (hb : Below wr.heap.size wr w') => hm.step hB hk' HN.out ho hb)
      have hul : us.length = n := by have := hm.outer.1; omega
      clear hc r1 hm
      have i0 : (0 : Int) ≤ (k : Int) := by omega
      have i1 : (k : Int) < (n : Int) := by omega
      generalize hrk : rows[k].length = m at *
      go_wp2_with fail
      refine TI.out.mono ?_
      rintro e w2 ⟨A2, c2, rfl, ho, hb⟩
      have h1 := own_ext hb HM.out.outer
      have cB := h1.cellAt k (by omega)
      have fB := h1.frozenAt k
      rw [List.getElem?_eq_getElem (by omega)] at cB
      have S2 := Lib.hid (ST.out w2 A2 c2 ho hb)
      have hsz2 := hb.size
      generalize us[k]'(by omega) = u at *
      clear h1 ho hb
      go_wp2_with fail
      go_roundw
      case rel => exact ⟨k + 1, _, by omega, by go_num, by simp [World.setCell]; omega, S2.out⟩
      case measure => simp [intOf]; omega
    · obtain rfl : k = n := by omega
      have HF := Lib.hid (FIN.out us wr hm)
      clear hm
      go_wp2_with fail
      go_ret
      exact HF.out
end Go.Proofs.Ytkamkjbllmgifaa
