/- The longest jump: slices.Max, the program's LongestJump, the reference's, the law's walk. -/
import Derived.Test.YtbkgmegpgnmlpaaJumps
import Derived.Test.YtbkgmegpgnmlpaaCvE
namespace Go.Proofs.Ytbkgmegpgnmlpaa
open Go.RowKit

def mxTo (L : List Int) : Nat → Int
  | 0 => L.getD 0 0
  | k + 1 => max (mxTo L k) (L.getD (k + 1) 0)

set_option maxHeartbeats 400000 in
theorem max_any (g cap : Nat) (L : List Int) (w : World) (hL : IntAt w g L) (hn : L.length ≤ 1000000) (h1 : 1 ≤ L.length) :
    Calls Try.prog 48 #[.slice (some ⟨g, 0, none⟩) L.length cap] w fun e w' => e = .returned (.int .i64 (mxTo L (L.length - 1))) ∧ w = w' := by
  obtain ⟨n, hnL⟩ : ∃ n, L.length = n := ⟨_, rfl⟩
  rw [hnL] at hn h1 ⊢
  have c0 := hL.2 0 (by omega)
  have e0 : L[0] = mxTo L 0 := by simp [mxTo, show 0 < L.length from by omega]
  rw [e0] at c0
  clear e0
  go_enter Try.func48, Try.ntmps48
  go_wp2_with fail
  go_loop [3, 4] (fun v i => ∃ k : Nat, k + 1 ≤ n ∧ i = .int .i64 ((k : Int) + 1) ∧ v = .int .i64 (mxTo L k)) (fun _ i => n + 1 - (intOf i).toNat)
  case atStart => exact ⟨0, by omega, rfl, rfl⟩
  case round =>
    obtain ⟨k, hk, rfl, rfl⟩ := hrel
    by_cases hlt : k + 1 < n
    · have c1 := hL.2 (k + 1) (by omega)
      have M : Hid (mxTo L (k + 1) = max (mxTo L k) L[k + 1]) := by
        show mxTo L (k + 1) = _
        simp [mxTo, hnL, hlt]
      generalize L[k + 1] = q at *
      have i0 : (0 : Int) ≤ (k : Int) + 1 := by omega
      have i1 : (k : Int) + 1 < (n : Int) := by omega
      generalize hmk : mxTo L k = mk at *
      clear hmk
      by_cases hle : mk < q
      · have M2 : Hid (max mk q = q) := Int.max_eq_right (by omega)
        go_wp2_with fail
        go_round
        case rel => exact ⟨k + 1, by omega, by go_num, by rw [M.out, M2.out]⟩
        case measure => simp [intOf]; omega
      · have M2 : Hid (max mk q = mk) := Int.max_eq_left (by omega)
        go_wp2_with fail
        go_round
        case rel => exact ⟨k + 1, by omega, by go_num, by rw [M.out, M2.out]⟩
        case measure => simp [intOf]; omega
    · obtain rfl : k = n - 1 := by omega
      go_wp2_with fail
      go_ret
      exact ⟨rfl, rfl⟩

/-- The greatest of the first jumps, 0 without one. -/
def mx0 (L : List (Int × Int)) : Nat → Int
  | 0 => 0
  | k + 1 => max (mx0 L k) (jmp (gp L k) (gp L (k + 1)))
theorem jl_length (L : List (Int × Int)) (k : Nat) : (jl L k).length = k := by simp [jl]
theorem jl_getD (L : List (Int × Int)) (k j : Nat) (h : j < k) : (jl L k).getD j 0 = jmp (gp L j) (gp L (j + 1)) := by simp [jl, h]
theorem mxTo_app (J : List Int) : ∀ k, k < J.length → mxTo (J ++ [0]) k = mxTo J k := by
  intro k
  induction k with
  | zero => intro h; simp [mxTo, h]
  | succ k ih => intro h; simp only [mxTo]; rw [ih (by omega)]; simp [List.getElem?_append, h]
theorem mxTo_mx0 (L : List (Int × Int)) (n : Nat) : ∀ k, k < n → max (mxTo (jl L n) k) 0 = mx0 L (k + 1) := by
  intro k
  induction k with
  | zero => intro h; simp only [mxTo, mx0]; rw [jl_getD L n 0 h]; omega
  | succ k ih =>
    intro h
    have := ih (by omega)
    rw [mx0, ← this]
    simp only [mxTo]
    rw [jl_getD L n (k + 1) h]
    omega
theorem mxTo_long (L : List (Int × Int)) (n : Nat) : mxTo (jl L n ++ [0]) n = mx0 L n := by
  cases n with
  | zero => rfl
  | succ n =>
    have e : mxTo (jl L (n + 1) ++ [0]) (n + 1) = max (mxTo (jl L (n + 1) ++ [0]) n) ((jl L (n + 1) ++ [0]).getD (n + 1) 0) := rfl
    rw [e, mxTo_app _ n (by rw [jl_length]; omega), ← mxTo_mx0 L (n + 1) n (by omega)]
    congr 1
    simp [jl_length]

theorem set_small {L : List (Int × Int)} (h : SmallL L) (i : Nat) {p : Int × Int} (hp : Small p.1 ∧ Small p.2) : SmallL (L.set i p) := by
  intro q hq
  rcases List.mem_or_eq_of_mem_set hq with h1 | h1
  · exact h q h1
  · rw [h1]; exact hp
theorem visRow_small (c o : Int) (y : Nat) (hy : y ≤ 100) (L : List (Int × Int)) (h : SmallL L) : ∀ m, m ≤ 100 → SmallL (visRow c o y L m) := by
  intro m
  induction m with
  | zero => intro _; exact h
  | succ m ih => intro hm; exact set_small (ih (by omega)) _ ⟨⟨by show (-100 : Int) ≤ m; omega, by show (m : Int) ≤ 100; omega⟩, ⟨by show (-100 : Int) ≤ y; omega, by show (y : Int) ≤ 100; omega⟩⟩
theorem visTo_small (c o : Int) (s : Nat) (hs : s ≤ 100) : ∀ k, k ≤ 100 → SmallL (visTo c o s k) := by
  intro k
  induction k with
  | zero =>
    intro _ p hp
    have := List.eq_of_mem_replicate hp
    rw [this]; exact ⟨⟨by decide, by decide⟩, ⟨by decide, by decide⟩⟩
  | succ k ih => intro hk; exact visRow_small c o k (by omega) _ (ih (by omega)) s hs

/-- What LongestJump answers. -/
def longI (c o : Int) : Int := if curveOkB c o then mx0 (visTo c o (side o).toNat (side o).toNat) ((side o).toNat * (side o).toNat - 1) else 0

theorem ret_long {a b : Int} {c d : Bool} (h : a = b) (k : c = d) : Ending.returned (.tuple #[.int .i64 b, .bool d]) = .returned (.tuple #[.int .i64 a, .bool c]) := by rw [h, k]
theorem own_ints {w : World} {base g n cap : Nat} {L : List Int} (h : w.ownsRow base 2 1 (.slice (some ⟨g, 0, none⟩) n cap) n (ints L)) (hn : L.length = n) : IntAt w g L :=
  ⟨(h.lt g rfl).2, fun i hi => by rw [h.cellAt i (by omega)]; simp [ints, hi]⟩

set_option maxRecDepth 100000 in
set_option maxHeartbeats 1000000 in
theorem longest_any (c o : Int) (w : World) :
    Calls Try.prog 16 #[.int .i64 c, .int .i64 o] w fun e w' => e = .returned (.tuple #[.int .i64 (longI c o), .bool (curveOkB c o)]) ∧ Below w.heap.size w w' := by
  cases h1 : curveOkB c o
  · have F : Hid (longI c o = 0) := by simp [Hid, longI, h1]
    go_enter Try.func16, Try.ntmps16
    go_wp2_with (go_at_call 47; refine (curveOk_any _ _ _).mono ?_; rintro e w' ⟨rfl, rfl⟩)
    go_ret2
    exact ⟨ret_long F.out rfl, Ext.refl _⟩
  · obtain ⟨⟨hc0, hc3⟩, h0, h4⟩ := curveOk_iff.1 h1
    have hS1 := side_pos h0 h4
    have hS2 := side_le h0 h4
    obtain ⟨s, hs⟩ := Int.eq_ofNat_of_zero_le (show 0 ≤ side o by omega)
    have VH := Lib.hid (fun W => visits_any c o W hc0 hc3 h0 h4 s hs)
    have F : Hid (longI c o = mx0 (visTo c o s s) (s * s - 1)) := by simp [Hid, longI, h1, hs]
    have hs16 : s ≤ 16 := by omega
    have hs1 : 1 ≤ s := by omega
    have hss : s * s ≤ 256 := Nat.le_trans (Nat.mul_le_mul hs16 hs16) (by decide)
    have hss1 : 1 ≤ s * s := Nat.mul_le_mul hs1 hs1
    have hl := visTo_length c o s s
    have hsm := visTo_small c o s (by omega) s (by omega)
    generalize visTo c o s s = L at *
    clear hs
    obtain ⟨n, hn⟩ : ∃ n, s * s = n + 1 := ⟨s * s - 1, by omega⟩
    rw [hn] at hl F VH hss
    clear hn hss1
    have JH := Lib.hid (fun (g : Nat) (W : World) (h : SpAt W g L) => jumps_any g (n + 1) L W h (by omega) hsm)
    rw [hl] at JH
    go_enter Try.func16, Try.ntmps16
    go_wp2_with (go_at_call 47; refine (curveOk_any _ _ _).mono ?_; rintro e w' ⟨rfl, rfl⟩)
    refine (VH.out _).mono ?_
    rintro e w1 ⟨rfl, hB, hb1⟩
    go_wp2_with fail
    refine (JH.out _ _ hB.spots).mono ?_
    rintro e w2 ⟨g2, cap2, rfl, hown2, hb2⟩
    rw [show n + 1 - 1 = n from rfl] at hown2
    have hs2 := hb2.size
    go_wp2_with (at_builtin; refine wpList_app intT (by rfl) (.tmp 13) (.tmp 14) (by rfl) w1.heap.size (.slice (some ⟨g2, 0, none⟩) n cap2) n (ints (jl L n)) (by rfl) (hown2.alloc _) w2.heap.size #[.int .i64 0] (by rfl) (heap_alloc_new w2 _) rfl (by simp [Value.oneCell']) (by omega) (by simp; omega) ?_; intro g3 cap3 w3 hown3 hgrow3 hat3 hlt3)
    have hown4 : w3.ownsRow w1.heap.size 2 1 (.slice (some ⟨g3, 0, none⟩) (n + 1) cap3) (n + 1) (ints (jl L n ++ [0])) := by simpa [ints] using hown3
    have hI := own_ints hown4 (by simp [jl_length])
    have hb3 : Below w.heap.size w w3 := (Ext.more (Ext.then_ hb1 hb2) _).grown hgrow3 (by have := hb1.size; simp; omega) (by intro x hx; have := (hown2.lt g2 rfl).1; have := hb1.size; simp [Value.ownBlock] at hx; omega)
    have M := max_any g3 cap3 (jl L n ++ [0]) w3 hI (by simp [jl_length]; omega) (by simp)
    have el : (jl L n ++ [0]).length = n + 1 := by simp [jl_length]
    rw [el] at M
    simp only [Nat.add_sub_cancel, mxTo_long] at M
    have MH := Lib.hid M
    clear M hown3 hgrow3 hat3 hown4 hI hown2 hB
    go_wp2_with (go_at_call 48; refine MH.out.mono ?_; rintro e w' ⟨rfl, rfl⟩)
    go_ret2
    exact ⟨ret_long F.out rfl, hb3⟩

set_option maxRecDepth 100000 in
set_option maxHeartbeats 1000000 in
theorem longestS_any (c o : Int) (w : World) :
    Calls Try.prog 22 #[.int .i64 c, .int .i64 o] w fun e w' => e = .returned (.tuple #[.int .i64 (longI c o), .bool (curveOkB c o)]) ∧ Below w.heap.size w w' := by
  cases h1 : curveOkB c o
  · have F : Hid (longI c o = 0) := by simp [Hid, longI, h1]
    go_enter Try.func22, Try.ntmps22
    go_wp2_with (go_at_call 57; refine (ask_any _ _ _).mono ?_; rintro e w' ⟨rfl, rfl⟩)
    go_ret2
    exact ⟨ret_long F.out rfl, Ext.refl _⟩
  · obtain ⟨⟨hc0, hc3⟩, h0, h4⟩ := curveOk_iff.1 h1
    have hS1 := side_pos h0 h4
    have hS2 := side_le h0 h4
    obtain ⟨s, hs⟩ := Int.eq_ofNat_of_zero_le (show 0 ≤ side o by omega)
    have VH := Lib.hid (fun W => spotsS_any c o W hc0 hc3 h0 h4 s hs)
    have F : Hid (longI c o = mx0 (visTo c o s s) (s * s - 1)) := by simp [Hid, longI, h1, hs]
    have hs16 : s ≤ 16 := by omega
    have hs1 : 1 ≤ s := by omega
    have hss : s * s ≤ 256 := Nat.le_trans (Nat.mul_le_mul hs16 hs16) (by decide)
    have hss1 : 1 ≤ s * s := Nat.mul_le_mul hs1 hs1
    have hl := visTo_length c o s s
    have hsm := visTo_small c o s (by omega) s (by omega)
    generalize visTo c o s s = L at *
    clear hs
    generalize s * s = n at *
    go_enter Try.func22, Try.ntmps22
    go_wp2_with (go_at_call 57; refine (ask_any _ _ _).mono ?_; rintro e w' ⟨rfl, rfl⟩)
    refine (VH.out _).mono ?_
    rintro e w1 ⟨rfl, hB, hb1⟩
    have hL := hB.spots
    clear hB VH
    have hgw := hL.1
    obtain ⟨g, hg⟩ : ∃ g, g = w.heap.size := ⟨_, rfl⟩
    rw [← hg] at hL hgw
    have hg' := Lib.hid hg
    rw [← hg]
    clear hg
    go_wp2_with fail
    go_loopw [7, 8] (fun v i wr => ∃ k : Nat, k + 1 ≤ n ∧ i = .int .i64 ((k : Int) + 1) ∧ v = .int .i64 (mx0 L k) ∧ Below w1.heap.size w1 wr) (fun _ i _ => n + 1 - (intOf i).toNat)
    case atStart => exact ⟨0, by omega, rfl, rfl, Ext.refl _⟩
    case round =>
      obtain ⟨k, hk, rfl, rfl, hb⟩ := hrel
      by_cases hlt : k + 1 < n
      · have hS := hL.ext hb
        have c1 := (hS.2 k (by omega)).1
        have c2 := (hS.2 k (by omega)).2
        have c3 := (hS.2 (k + 1) (by omega)).1
        have c4 := (hS.2 (k + 1) (by omega)).2
        have hg := hS.1
        obtain ⟨s1, s2⟩ := hsm L[k] (List.getElem_mem _)
        obtain ⟨s3, s4⟩ := hsm L[k + 1] (List.getElem_mem _)
        have J : Hid (mx0 L (k + 1) = max (mx0 L k) (far0 L[k].1 L[k].2 L[k + 1].1 L[k + 1].2)) := by
          show mx0 L (k + 1) = _
          simp [mx0, jmp, gp, hlt, hl, show k < n from by omega]
        generalize L[k] = p at *
        generalize L[k + 1] = q at *
        obtain ⟨ax, ay⟩ := p
        obtain ⟨bx, by_⟩ := q
        simp only at c1 c2 c3 c4 s1 s2 s3 s4
        have FH := Lib.hid (fun W => jumpS_any ax ay bx by_ W s1 s2 s3 s4)
        have i0 : (0 : Int) ≤ (k : Int) := by omega
        have i1 : (k : Int) < (n : Int) := by omega
        have i2 : (k : Int) + 1 < (n : Int) := by omega
        have i3 : (0 : Int) ≤ (k : Int) + 1 := by omega
        have i4 : IntKind.i64.wrap (k : Int) = k := IntWalk.i64_in _ (by omega)
        clear s1 s2 s3 s4 hS
        go_wp2_with fail
        go_region_held3 (fun w' => w'.cell? ⟨g, k * 2, none⟩ = some (.int .i64 ax) ∧ w'.cell? ⟨g, k * 2 + 1, none⟩ = some (.int .i64 ay) ∧ w'.cell? ⟨g, (k + 1) * 2, none⟩ = some (.int .i64 bx) ∧ w'.cell? ⟨g, (k + 1) * 2 + 1, none⟩ = some (.int .i64 by_))
          (first | (go_split_ands; refine ⟨?_, ?_, ?_, ?_⟩ <;> exact (hb'.cell (p := ⟨_, _, none⟩) (by simpa using hg)).trans (by assumption)) | go_keep)
          (first
            | (go_at_call 62; refine (FH.out _).mono ?_; rintro e w' ⟨rfl, hb'⟩)
            | (go_at_call 61; refine (maxS_any _ _ _).mono ?_; rintro e w'' ⟨rfl, rfl⟩))
        have hb3 : Below w1.heap.size w1 w' := hb.drew.trans (hb'.mono hb.size)
        clear hb' FH c1 c2 c3 c4 hb
        go_wp2_with fail
        go_roundw
        case rel => exact ⟨k + 1, by omega, by go_num, by rw [J.out], hb3⟩
        case measure => simp [intOf]; omega
      · obtain rfl : k = n - 1 := by omega
        go_wp2_with fail
        go_ret2
        exact ⟨ret_long F.out rfl, Ext.then_ hb1 hb⟩

set_option maxHeartbeats 400000 in
theorem lawLong_any (c o : Int) (w : World) :
    Calls Try.prog 5 #[.int .i64 c, .int .i64 o] w fun e w' => e = .returned (.bool true) ∧ Below w.heap.size w w' := by
  have C1 := Lib.hid (fun W => longestS_any c o W)
  have C2 := Lib.hid (fun W => longest_any c o W)
  generalize longI c o = p at C1 C2
  generalize curveOkB c o = b at C1 C2
  have t1 : (p != p) = false := by simp
  have t2 : (b != b) = false := by simp
  go_enter Try.func5, Try.ntmps5
  go_wp2_with fail
  refine (C1.out _).mono ?_
  rintro e w1 ⟨rfl, hb1⟩
  go_wp2_with fail
  refine (C2.out _).mono ?_
  rintro e w2 ⟨rfl, hb2⟩
  go_wp2_with fail
  go_ret
  exact ⟨rfl, Ext.then_ hb1 hb2⟩
end Go.Proofs.Ytbkgmegpgnmlpaa
