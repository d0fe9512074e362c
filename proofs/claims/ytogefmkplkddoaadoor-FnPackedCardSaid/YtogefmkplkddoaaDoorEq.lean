/- Equality, marks and held marks of lists of numbers that lie in memory of the law's own. -/
import Derived.Test.YtogefmkplkddoaaDoorMem
namespace Go.Proofs.YtogefmkplkddoaaDoor
open Go.RowKit

/-- Only blocks in S, and new ones, have turned. -/
structure Chg (S : Nat → Prop) (w w' : World) : Prop where
  os : w'.os = w.os
  tape : w'.tape = w.tape
  output : w'.output = w.output
  size : w.heap.size ≤ w'.heap.size
  block : ∀ k, k < w.heap.size → ¬ S k → w'.heap[k]? = w.heap[k]?
theorem Chg.refl (S : Nat → Prop) (w : World) : Chg S w w := ⟨rfl, rfl, rfl, Nat.le_refl _, fun _ _ _ => rfl⟩
theorem Chg.trans {S : Nat → Prop} {a b c : World} (h : Chg S a b) (k : Chg S b c) : Chg S a c :=
  ⟨k.os.trans h.os, k.tape.trans h.tape, k.output.trans h.output, Nat.le_trans h.size k.size, fun j hj hs => (k.block j (Nat.lt_of_lt_of_le hj h.size) hs).trans (h.block j hj hs)⟩
theorem Chg.mono {S T : Nat → Prop} {a b : World} (h : Chg S a b) (hs : ∀ k, S k → T k) : Chg T a b :=
  ⟨h.os, h.tape, h.output, h.size, fun j hj ht => h.block j hj (fun h' => ht (hs j h'))⟩
theorem Chg.below {S : Nat → Prop} {a b : World} {B : Nat} (h : Chg S a b) (hs : ∀ k, S k → B ≤ k) (hB : B ≤ a.heap.size) : Below B a b :=
  ⟨h.os, h.tape, h.output, h.size, fun j hj => h.block j (by omega) (fun h' => by have := hs j h'; omega)⟩
theorem Chg.of_below {a b : World} {B : Nat} (h : Below B a b) : Chg (fun k => B ≤ k) a b :=
  ⟨h.os, h.tape, h.output, h.size, fun j _ hj => h.block j (by omega)⟩
theorem Chg.drewN {S : Nat → Prop} {a b : World} (h : Chg S a b) (n : Nat) : Chg S a (b.drewN n) := ⟨h.os, h.tape, h.output, h.size, h.block⟩
theorem Chg.store {S : Nat → Prop} {a b : World} (h : Chg S a b) {p : Addr} (hp : S p.block) (u : Value) : Chg S a (b.setCell p u) :=
  ⟨h.os, h.tape, h.output, by simpa [World.setCell] using h.size, fun j hj hs => (Below.heap_setCell b p u j (fun e => hs (by rw [e]; exact hp))).trans (h.block j hj hs)⟩
theorem Chg.cell {S : Nat → Prop} {w w' : World} (h : Chg S w w') {p : Addr} (hp : p.block < w.heap.size) (hs : ¬ S p.block) : w'.cell? p = w.cell? p := World.cell?_of_block (w := w) (h.block p.block hp hs)
theorem Chg.own {S : Nat → Prop} {w w' : World} (hb : Chg S w w') {base : Nat} {e : TypeId} {size : Nat} {v : Value} {n : Nat} {xs : List Value} (h : w.ownsRow base e size v n xs) (hs : ∀ g, v.ownBlock = some g → ¬ S g) : w'.ownsRow base e size v n xs := by
  refine ⟨h.1, ?_⟩
  rcases h.2 with h | ⟨g, cap, cur, hv, hg, hh, hr⟩
  · exact .inl h
  · refine .inr ⟨g, cap, cur, hv, hg, (hb.block g ?_ (hs g (by rw [hv]; rfl))).trans hh, hr⟩
    by_cases hlt : g < w.heap.size
    · exact hlt
    · rw [Array.getElem?_eq_none (by omega)] at hh; cases hh

/-- A slice value's address reads as a list of one-cell values, in memory that a call made. -/
def Rd (w : World) (A : Option Addr) (xs : List Value) : Prop :=
  0 < xs.length → ∃ g, A = some ⟨g, 0, none⟩ ∧ g < w.heap.size ∧ ∀ i (h : i < xs.length), w.cell? ⟨g, i, none⟩ = some xs[i]
theorem Rd.of_own {w : World} {base : Nat} {e : TypeId} {A : Option Addr} {n c : Nat} {xs : List Value} (h : w.ownsRow base e 1 (.slice A n c) n xs) : Rd w A xs := by
  intro hn
  have hl : xs.length = n := by have := h.1; omega
  rcases h.2 with ⟨_, h0⟩ | ⟨g, cap, cur, hv, _⟩
  · omega
  · simp only [Value.slice.injEq] at hv
    obtain ⟨rfl, _, rfl⟩ := hv
    exact ⟨g, rfl, (h.lt g rfl).2, fun i hi => by rw [h.cellAt i (by omega)]; simp [hi]⟩
theorem Rd.ext {w w' : World} {A : Option Addr} {xs : List Value} (h : Rd w A xs) (hb : Below w.heap.size w w') : Rd w' A xs := by
  intro hn
  obtain ⟨g, e, hg, hc⟩ := h hn
  exact ⟨g, e, Nat.lt_of_lt_of_le hg hb.size, fun i hi => (hb.cell (p := ⟨g, _, none⟩) hg).trans (hc i hi)⟩
theorem Rd.drewN {w : World} {A : Option Addr} {xs : List Value} (h : Rd w A xs) (k : Nat) : Rd (w.drewN k) A xs := h

/-- The marks k, k + 1, .. -/
def marks (k n : Nat) : List Int := (List.range n).map fun i => ((k + i : Nat) : Int)
theorem marks_length (k n : Nat) : (marks k n).length = n := by simp [marks]
theorem marks_succ (k n : Nat) : marks k (n + 1) = marks k n ++ [((k + n : Nat) : Int)] := by simp [marks, List.range_succ]

set_option maxHeartbeats 400000 in
theorem eqInts_any (A B : Option Addr) (c d : Nat) (L : List Int) (w : World) (hA : Rd w A (ints L)) (hB : Rd w B (ints L)) (hn : L.length ≤ 1000000000) :
    Calls Tryd.prog 11 #[.slice A L.length c, .slice B L.length d] w fun e w' => e = .returned (.bool true) ∧ ∃ k, w' = w.drewN k := by
  obtain ⟨n, hnL⟩ : ∃ n, L.length = n := ⟨_, rfl⟩
  have t0 : ((n : Int) != n) = false := by simp
  have hl : (ints L).length = n := by simp [ints, hnL]
  rw [hnL] at hn ⊢
  go_enter Tryd.func11, Tryd.ntmps11
  go_wp2_with fail
  go_loopw [5] (fun i wr => ∃ k j : Nat, k ≤ n ∧ i = .int .i64 k ∧ wr = w.drewN j) (fun i _ => n - (intOf i).toNat)
  case atStart => exact ⟨0, 0, Nat.zero_le _, rfl, rfl⟩
  case round =>
    obtain ⟨k, j, hk, rfl, rfl⟩ := hrel
    by_cases hlt : k < n
    · obtain ⟨g, rfl, hg, hcA⟩ := hA (by omega)
      obtain ⟨g', rfl, hg', hcB⟩ := hB (by omega)
      have c1 := hcA k (by omega)
      have c2 := hcB k (by omega)
      have e1 : (ints L)[k] = .int .i64 L[k] := by simp [ints]
      rw [e1] at c1 c2
      clear e1 hcA hcB
      generalize L[k] = x at *
      have i0 : (0 : Int) ≤ (k : Int) := by omega
      have i1 : (k : Int) < (n : Int) := by omega
      have t1 : (x != x) = false := by simp
      go_wp2_with fail
      go_quiet (fail)
      go_wp2_with fail
      go_roundw
      case rel => exact ⟨k + 1, _, by omega, by go_num, rfl⟩
      case measure => simp [intOf]; omega
    · obtain rfl : k = n := by omega
      go_wp2_with fail
      go_ret
      exact ⟨rfl, j, rfl⟩

set_option maxHeartbeats 400000 in
theorem markInts_any (base : Nat) (A : Option Addr) (c : Nat) (L : List Int) (k0 : Nat) (w : World) (hA : w.ownsRow base 2 1 (.slice A L.length c) L.length (ints L)) (hn : L.length ≤ 1000000000) (hk0 : k0 ≤ 1000000000000) :
    Calls Tryd.prog 12 #[.slice A L.length c, .int .i64 k0] w fun e w' => e = .returned (.int .i64 ((k0 + L.length : Nat) : Int)) ∧
      w'.ownsRow base 2 1 (.slice A L.length c) L.length (ints (marks k0 L.length)) ∧ Chg (fun b => ∃ a, A = some a ∧ b = a.block) w w' := by
  obtain ⟨n, hnL⟩ : ∃ n, L.length = n := ⟨_, rfl⟩
  rw [hnL] at hA hn ⊢
  go_enter Tryd.func12, Tryd.ntmps12
  go_wp2_with fail
  go_loopw [1, 5] (fun v i wr => ∃ k : Nat, k ≤ n ∧ i = .int .i64 k ∧ v = .int .i64 ((k0 + k : Nat) : Int) ∧ wr.ownsRow base 2 1 (.slice A n c) n (ints (marks k0 k ++ L.drop k)) ∧ Chg (fun b => ∃ a, A = some a ∧ b = a.block) w wr) (fun _ i _ => n - (intOf i).toNat)
  case atStart => exact ⟨0, Nat.zero_le _, rfl, rfl, by simpa [marks] using hA, Chg.refl _ _⟩
  case round =>
    obtain ⟨k, hk, rfl, rfl, hown, hb⟩ := hrel
    by_cases hlt : k < n
    · rcases hown.2 with ⟨_, h0⟩ | ⟨g, cap, cur, hv, _⟩
      · omega
      · simp only [Value.slice.injEq] at hv
        obtain ⟨rfl, _, rfl⟩ := hv
        have c1 := hown.cellAt k (by omega)
        have f1 := hown.frozenAt k
        have hst := hown.stored k (.int .i64 ((k0 + k : Nat) : Int))
        have hl : (ints (marks k0 k ++ L.drop k)).length = n := by simp [ints, marks_length, hnL]; omega
        rw [List.getElem?_eq_getElem (by omega)] at c1
        generalize (ints (marks k0 k ++ L.drop k))[k] = u at c1
        have hset : (ints (marks k0 k ++ L.drop k)).set k (.int .i64 ((k0 + k : Nat) : Int)) = ints (marks k0 (k + 1) ++ L.drop (k + 1)) := by
          have hd : L.drop k = L[k] :: L.drop (k + 1) := List.drop_eq_getElem_cons (by omega)
          rw [marks_succ, hd]
          have hm : (List.map (Value.int .i64) (marks k0 k)).length = k := by simp [marks_length]
          simp only [ints, List.map_append, List.map_cons, List.append_assoc, List.cons_append, List.nil_append]
          rw [List.set_append_right _ _ (by omega), hm, Nat.sub_self, List.set_cons_zero]
        rw [hset] at hst
        have HST := Lib.hid hst
        have i0 : (0 : Int) ≤ (k : Int) := by omega
        have i1 : (k : Int) < (n : Int) := by omega
        clear hset hst hl hown
        go_wp2_with fail
        go_roundw
        case rel => exact ⟨k + 1, by omega, by go_num, by go_num, HST.out.1, hb.store (p := ⟨g, k, none⟩) ⟨_, rfl, rfl⟩ _⟩
        case measure => simp [intOf]; omega
    · obtain rfl : k = n := by omega
      go_wp2_with fail
      go_ret
      refine ⟨rfl, ?_, hb⟩
      simpa [List.drop_of_length_le (show L.length ≤ k by omega)] using hown

set_option maxHeartbeats 400000 in
theorem heldInts_any (A : Option Addr) (c n k0 : Nat) (w : World) (hA : Rd w A (ints (marks k0 n))) (hn : n ≤ 1000000000) (hk0 : k0 ≤ 1000000000000) :
    Calls Tryd.prog 13 #[.slice A n c, .int .i64 k0] w fun e w' => e = .returned (.int .i64 ((k0 + n : Nat) : Int)) ∧ w = w' := by
  have hl : (ints (marks k0 n)).length = n := by simp [ints, marks_length]
  go_enter Tryd.func13, Tryd.ntmps13
  go_wp2_with fail
  go_loop [1, 5] (fun v i => ∃ k : Nat, k ≤ n ∧ i = .int .i64 k ∧ v = .int .i64 ((k0 + k : Nat) : Int)) (fun _ i => n - (intOf i).toNat)
  case atStart => exact ⟨0, Nat.zero_le _, rfl, rfl⟩
  case round =>
    obtain ⟨k, hk, rfl, rfl⟩ := hrel
    by_cases hlt : k < n
    · obtain ⟨g, rfl, hg, hcA⟩ := hA (by omega)
      have c1 := hcA k (by omega)
      have e1 : (ints (marks k0 n))[k] = .int .i64 ((k0 + k : Nat) : Int) := by simp [ints, marks]
      rw [e1] at c1
      clear e1 hcA
      have i0 : (0 : Int) ≤ (k : Int) := by omega
      have i1 : (k : Int) < (n : Int) := by omega
      have t1 : (((k0 + k : Nat) : Int) != ((k0 + k : Nat) : Int)) = false := by simp
      go_wp2_with fail
      go_round
      case rel => exact ⟨k + 1, by omega, by go_num, by go_num⟩
      case measure => simp [intOf]; omega
    · obtain rfl : k = n := by omega
      go_wp2_with fail
      go_ret
      exact ⟨rfl, rfl⟩
end Go.Proofs.YtogefmkplkddoaaDoor
