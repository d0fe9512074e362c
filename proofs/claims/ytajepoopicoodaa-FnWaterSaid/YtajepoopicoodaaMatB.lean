/- Matrices that came in: size and copy. -/
import Derived.Test.YtajepoopicoodaaMatA
namespace Go.Proofs.Ytajepoopicoodaa
open Go.RowKit

set_option maxHeartbeats 400000 in
theorem szMat_any (A : Option Addr) (c : Nat) (rows : List (List Int)) (l0 : Nat) (hl : l0 ≤ 1048576) (w : World) (h : MatRdA w A rows) (hn : rows.length ≤ maxLen) (hsz : ∀ r ∈ rows, r.length ≤ maxLen) :
    Calls Try.prog 50 #[.slice A rows.length c, .int .i64 l0] w fun e w' => (∃ r : Int, e = .returned (.int .i64 r) ∧ (r < 0 ∨ rows.length + tot rows rows.length ≤ l0 ∧ r = ((l0 - (rows.length + tot rows rows.length) : Nat) : Int))) ∧ w = w' := by
  unfold maxLen at hn
  have HX := Lib.hid h
  have SZ := Lib.hid hsz
  have TS := Lib.hid (fun k (h : k < rows.length) => tot_succ h)
  have T0 := Lib.hid (tot_zero rows)
  clear h hsz
  obtain ⟨n, hnL⟩ : ∃ n, rows.length = n := ⟨_, rfl⟩
  have HN := Lib.hid hnL
  rw [hnL] at hn ⊢
  clear hnL
  have i0 : IntKind.i64.wrap ((l0 : Int) - n) = (l0 : Int) - n := IntWalk.i64_in _ (by omega)
  by_cases h1 : (l0 : Int) - n < 0
  · go_enter Try.func50, Try.ntmps50
    go_wp2_with fail
    go_ret
    exact ⟨⟨-1, rfl, .inl (by decide)⟩, rfl⟩
  · have HLE : Hid (n ≤ l0) := by show n ≤ l0; omega
    go_enter Try.func50, Try.ntmps50
    go_wp2_with fail
    go_loop [1, 5] (fun v i => ∃ k l : Nat, k ≤ n ∧ i = .int .i64 k ∧ v = .int .i64 l ∧ Hid (n + tot rows k + l = l0) ∧ l ≤ 1048576) (fun _ i => n - (intOf i).toNat)
    case atStart => exact ⟨0, l0 - n, Nat.zero_le _, rfl, by have := HLE.out; rw [show ((l0 - n : Nat) : Int) = (l0 : Int) - n by omega], by have := HLE.out; rw [Hid, T0.out]; omega, by omega⟩
    case round =>
      obtain ⟨k, l, hk, rfl, rfl, hl0, hl1⟩ := hrel
      by_cases hlt : k < n
      · have hk' : k < rows.length := by have := HN.out; omega
        obtain ⟨a, rfl, hg, hc⟩ := HX.out (by omega)
        obtain ⟨Ak, ck, c1, _⟩ := hc k hk'
        have S1 := Lib.hid (szInts_any Ak rows[k].length ck l hl1 (SZ.out _ (List.getElem_mem _)) w)
        have t1 := Lib.hid (TS.out k hk')
        clear hc
        generalize rows[k].length = m at *
        have i2 : (0 : Int) ≤ (k : Int) := by omega
        have i3 : (k : Int) < (n : Int) := by omega
        go_wp2_with fail
        refine S1.out.mono ?_
        rintro e w' ⟨⟨r, rfl, hr⟩, rfl⟩
        by_cases h2 : r < 0
        · clear hr
          go_wp2_with fail
          go_ret
          exact ⟨⟨-1, rfl, .inl (by decide)⟩, rfl⟩
        · obtain ⟨hr1, rfl⟩ : m ≤ l ∧ r = ((l - m : Nat) : Int) := by omega
          clear hr
          go_wp2_with fail
          go_round
          case rel => exact ⟨k + 1, l - m, by omega, by go_num, rfl, by have h3 := t1.out; have h4 := hl0.out; rw [Hid, h3]; omega, by omega⟩
          case measure => simp [intOf]; omega
      · obtain rfl : k = n := by omega
        go_wp2_with fail
        go_ret
        exact ⟨⟨l, rfl, .inr ⟨by have := hl0.out; omega, by have := hl0.out; omega⟩⟩, rfl⟩

/-- A copy of a matrix in the making. -/
structure MatTo (B : Nat) (w : World) (rows : List (List Int)) (us : List Value) (n k : Nat) (wr : World) : Prop where
  outer : wr.ownsRow B 51 1 (.slice (some ⟨B, 0, none⟩) n n) n us
  row : ∀ i (h : i < rows.length), i < k → ∃ Ai ci, us[i]? = some (.slice Ai rows[i].length ci) ∧ wr.ownsRow B 2 1 (.slice Ai rows[i].length ci) rows[i].length (ints rows[i])
  apart : ∀ (i j : Nat) (u v : Value) (g : Nat), i < k → j < k → i ≠ j → us[i]? = some u → us[j]? = some v → u.ownBlock = some g → v.ownBlock ≠ some g
  ext : Below B w wr

theorem MatTo.step {B : Nat} {w : World} {rows : List (List Int)} {us : List Value} {n k : Nat} {wr : World} (h : MatTo B w rows us n k wr) (hB : B ≤ wr.heap.size) (hk : k < rows.length) (hn : rows.length = n) {w' : World} {A' : Option Addr} {c' : Nat}
    (ho : w'.ownsRow wr.heap.size 2 1 (.slice A' rows[k].length c') rows[k].length (ints rows[k])) (hb : Below wr.heap.size wr w') :
    MatTo B w rows (us.set k (.slice A' rows[k].length c')) n (k + 1) (w'.setCell ⟨B, k, none⟩ (.slice A' rows[k].length c')) := by
  have h1 := own_ext hb h.outer
  have h2 := (h1.stored k (.slice A' rows[k].length c')).1
  have hul : us.length = n := by have := h.outer.1; omega
  have hne : (Value.slice A' rows[k].length c').ownBlock ≠ some B := own_own_ne h1 ho (by decide) rfl
  have keep : ∀ {v : Value} {m : Nat} {xs : List Value}, w'.ownsRow B 2 1 v m xs → (w'.setCell ⟨B, k, none⟩ (.slice A' rows[k].length c')).ownsRow B 2 1 v m xs := by
    intro v m xs hv
    exact ((Chg.refl (fun b => b = B) w').store (p := ⟨B, k, none⟩) rfl _).own hv (fun g hg e => own_own_ne h1 hv (by decide) rfl (by rw [hg, e]))
  refine ⟨h2, fun i hi hik => ?_, fun i j u v g hi hj hij hu hv hg => ?_, ?_⟩
  · by_cases e : i = k
    · subst e
      refine ⟨A', c', by rw [List.getElem?_set_self (by omega)], keep (own_base ho hB)⟩
    · obtain ⟨Ai, ci, hx, hy⟩ := h.row i hi (by omega)
      exact ⟨Ai, ci, by rw [List.getElem?_set_ne (Ne.symm e)]; exact hx, keep (own_ext hb hy)⟩
  · by_cases e : i = k
    · subst e
      rw [List.getElem?_set_self (by omega)] at hu
      rw [List.getElem?_set_ne (by omega)] at hv
      obtain rfl := Option.some.inj hu
      obtain ⟨Aj, cj, hx, hy⟩ := h.row j (by omega) (by omega)
      rw [hv] at hx
      obtain rfl := Option.some.inj hx
      intro hg2
      have := (ho.lt g hg).1
      have := (hy.lt g hg2).2
      omega
    · rw [List.getElem?_set_ne (Ne.symm e)] at hu
      by_cases e2 : j = k
      · subst e2
        rw [List.getElem?_set_self (by omega)] at hv
        obtain rfl := Option.some.inj hv
        obtain ⟨Ai, ci, hx, hy⟩ := h.row i (by omega) (by omega)
        rw [hu] at hx
        obtain rfl := Option.some.inj hx
        intro hg2
        have := (ho.lt g hg2).1
        have := (hy.lt g hg).2
        omega
      · rw [List.getElem?_set_ne (Ne.symm e2)] at hv
        exact h.apart i j u v g (by omega) (by omega) hij hu hv hg
  · exact (h.ext.trans (hb.mono hB)).setCell (p := ⟨B, k, none⟩) (Nat.le_refl _) _
end Go.Proofs.Ytajepoopicoodaa
