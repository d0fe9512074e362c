/- The intervals of all boxes of a size: the program's and the reference's. -/
import Derived.Test.YtbkgmegpgnmlpaaIvS
import Derived.Test.YtbkgmegpgnmlpaaCvE
namespace Go.Proofs.Ytbkgmegpgnmlpaa
open Go.RowKit

theorem own_ints' {w : World} {base g n cap : Nat} {L : List Int} (h : w.ownsRow base 2 1 (.slice (some ⟨g, 0, none⟩) n cap) n (ints L)) (hn : L.length = n) : IntAt w g L :=
  ⟨(h.lt g rfl).2, fun i hi => by rw [h.cellAt i (by omega)]; simp [ints, hi]⟩
theorem part_box {V : List (Int × Int)} {f t : Int × Int} {s base g cap : Nat} {w : World} (hs : s ≤ 16) (h : w.ownsRow base 2 1 (.slice (some ⟨g, 0, none⟩) (ivN V f t (s * s)).length cap) (ivN V f t (s * s)).length (ints (ivN V f t (s * s)))) :
    Calls Try.prog 64 #[.slice (some ⟨g, 0, none⟩) (ivN V f t (s * s)).length cap, .int .i64 1] w (PrRes w (spTo V f t (s * s))) := by
  have hss : s * s ≤ 256 := Nat.le_trans (Nat.mul_le_mul hs hs) (by decide)
  rw [spTo_eq]
  exact parts_any g cap _ _ 1 w (own_ints' h rfl) rfl (Nat.le_trans (ivN_len _ _ _ _) (by omega)) (fun x hx => by obtain ⟨i, rfl, hi, _⟩ := ivN_mem.1 hx; omega) (by decide)

def iszRow (V : List (Int × Int)) (W H y : Nat) : Nat → Nat
  | 0 => 0
  | x + 1 => iszRow V W H y x + (spTo V ((x : Int), (y : Int)) ((x : Int) + W - 1, (y : Int) + H - 1) V.length).length
def iszTo (V : List (Int × Int)) (W H m : Nat) : Nat → Nat
  | 0 => 0
  | y + 1 => iszTo V W H m y + iszRow V W H y m
theorem iszRow_le {V : List (Int × Int)} (hV : V.length ≤ 256) (W H y : Nat) : ∀ x, iszRow V W H y x ≤ x * 256 := by
  intro x
  induction x with
  | zero => exact Nat.zero_le _
  | succ x ih => rw [iszRow, Nat.succ_mul]; exact Nat.add_le_add ih (Nat.le_trans (spTo_le _ _ _ _) hV)
theorem iszTo_le {V : List (Int × Int)} (hV : V.length ≤ 256) (W H m : Nat) (hm : m ≤ 16) : ∀ y, iszTo V W H m y ≤ y * 4096 := by
  intro y
  induction y with
  | zero => exact Nat.zero_le _
  | succ y ih => rw [iszTo, Nat.succ_mul]; exact Nat.add_le_add ih (Nat.le_trans (iszRow_le hV _ _ _ _) (by omega))
def iszOk (c o W H : Int) : Bool := curveOkB c o && (inB W 1 (side o) && inB H 1 (side o))
def isz (c o W H : Int) : Int := if iszOk c o W H then (iszTo (visTo c o (side o).toNat (side o).toNat) W.toNat H.toNat ((side o).toNat - W.toNat + 1) ((side o).toNat - H.toNat + 1) : Nat) else 0
theorem isz_ret {a b : Int} {c d : Bool} (h : a = b) (k : c = d) : Ending.returned (.tuple #[.int .i64 b, .bool d]) = .returned (.tuple #[.int .i64 a, .bool c]) := by rw [h, k]

set_option maxRecDepth 100000 in
set_option maxHeartbeats 2000000 in
theorem iszI_any (c o W H : Int) (w : World) :
    Calls Try.prog 24 #[.int .i64 c, .int .i64 o, .int .i64 W, .int .i64 H] w fun e w' => e = .returned (.tuple #[.int .i64 (isz c o W H), .bool (iszOk c o W H)]) ∧ Below w.heap.size w w' := by
  cases h1 : curveOkB c o
  · have F : Hid (isz c o W H = 0 ∧ iszOk c o W H = false) := by simp [Hid, isz, iszOk, h1]
    go_enter Try.func24, Try.ntmps24
    go_wp2_with (go_at_call 47; refine (curveOk_any _ _ _).mono ?_; rintro e w' ⟨rfl, rfl⟩)
    go_ret2
    exact ⟨isz_ret F.out.1 F.out.2, Ext.refl _⟩
  · obtain ⟨⟨hc0, hc3⟩, h0, h4⟩ := curveOk_iff.1 h1
    have hS := side_wrap h0 h4
    have hS1 := side_pos h0 h4
    have hS2 := side_le h0 h4
    cases h2 : inB W 1 (side o)
    · have F : Hid (isz c o W H = 0 ∧ iszOk c o W H = false) := by simp [Hid, isz, iszOk, h1, h2]
      have I := Lib.hid (in_any W 1 (side o))
      rw [h2] at I
      clear h2
      go_enter Try.func24, Try.ntmps24
      go_wp2_with fail
      refine (curveOk_any _ _ _).mono ?_
      rintro e w' ⟨rfl, rfl⟩
      go_wp2_with fail
      refine (I.out _).mono ?_
      rintro e w' ⟨rfl, rfl⟩
      go_wp2_with fail
      go_ret2
      exact ⟨isz_ret F.out.1 F.out.2, Ext.refl _⟩
    · cases h3 : inB H 1 (side o)
      · have F : Hid (isz c o W H = 0 ∧ iszOk c o W H = false) := by simp [Hid, isz, iszOk, h1, h3]
        have I := Lib.hid (in_any W 1 (side o))
        have J := Lib.hid (in_any H 1 (side o))
        rw [h2] at I
        rw [h3] at J
        clear h2 h3
        go_enter Try.func24, Try.ntmps24
        go_wp2_with fail
        refine (curveOk_any _ _ _).mono ?_
        rintro e w' ⟨rfl, rfl⟩
        go_wp2_with fail
        refine (I.out _).mono ?_
        rintro e w' ⟨rfl, rfl⟩
        go_wp2_with fail
        refine (J.out _).mono ?_
        rintro e w' ⟨rfl, rfl⟩
        go_wp2_with fail
        go_ret2
        exact ⟨isz_ret F.out.1 F.out.2, Ext.refl _⟩
      · have I := Lib.hid (in_any W 1 (side o))
        have J := Lib.hid (in_any H 1 (side o))
        rw [h2] at I
        rw [h3] at J
        obtain ⟨hw1, hw2⟩ := inB_iff.1 h2
        obtain ⟨hh1, hh2⟩ := inB_iff.1 h3
        obtain ⟨s, hs⟩ := Int.eq_ofNat_of_zero_le (show 0 ≤ side o by omega)
        obtain ⟨W, rfl⟩ := Int.eq_ofNat_of_zero_le (show 0 ≤ W by omega)
        obtain ⟨H, rfl⟩ := Int.eq_ofNat_of_zero_le (show 0 ≤ H by omega)
        have F : Hid (isz c o W H = (iszTo (visTo c o s s) W H (s - W + 1) (s - H + 1) : Nat) ∧ iszOk c o W H = true) := by
          have e : iszOk c o W H = true := by simp [iszOk, h1, h2, h3]
          exact ⟨by rw [isz, if_pos e, hs]; rfl, e⟩
        have BX := Lib.hid (fun x y x' y' U hB => boxed_any c o x y x' y' U hc0 hc3 hB s hs)
        have BO : Hid (∀ x y : Nat, x < s - W + 1 → y < s - H + 1 → boxB o ((x : Int), (y : Int)) ((x : Int) + W - 1, (y : Int) + H - 1) = true) := by
          intro x y hx hy
          refine boxB_iff.2 ⟨⟨h0, h4⟩, ⟨?_, ?_⟩, ⟨?_, ?_⟩, ⟨?_, ?_⟩, ?_, ?_⟩ <;> simp only <;> omega
        rw [hs] at hS hS1 hS2 hw2 hh2 I J
        have hs16 : s ≤ 16 := by omega
        have hss : s * s ≤ 256 := Nat.le_trans (Nat.mul_le_mul hs16 hs16) (by decide)
        have PB := Lib.hid (fun (f t : Int × Int) (base g cap : Nat) (U : World) => part_box (V := visTo c o s s) (f := f) (t := t) (base := base) (g := g) (cap := cap) (w := U) hs16)
        have hV := visTo_length c o s s
        have RS := Lib.hid (fun y x => (show iszRow (visTo c o s s) W H y (x + 1) = iszRow (visTo c o s s) W H y x + (spTo (visTo c o s s) ((x : Int), (y : Int)) ((x : Int) + W - 1, (y : Int) + H - 1) (visTo c o s s).length).length from rfl))
        rw [hV] at RS
        have RL := Lib.hid (fun y x => iszRow_le (V := visTo c o s s) (by omega) W H y x)
        have TL := Lib.hid (fun m hm y => iszTo_le (V := visTo c o s s) (by omega) W H m hm y)
        have PLe := Lib.hid (fun f t => spTo_le (visTo c o s s) f t (s * s))
        have TS := Lib.hid (fun m y => (show iszTo (visTo c o s s) W H m (y + 1) = iszTo (visTo c o s s) W H m y + iszRow (visTo c o s s) W H y m from rfl))
        have T0 : Hid (∀ m, iszTo (visTo c o s s) W H m 0 = 0) := fun _ => rfl
        have R0 : Hid (∀ y, iszRow (visTo c o s s) W H y 0 = 0) := fun _ => rfl
        obtain ⟨m, hm⟩ : ∃ m, s - W + 1 = m := ⟨_, rfl⟩
        obtain ⟨k, hk⟩ : ∃ k, s - H + 1 = k := ⟨_, rfl⟩
        have em : (s : Int) - W + 1 = m := by omega
        have ek : (s : Int) - H + 1 = k := by omega
        have hm16 : m ≤ 16 := by omega
        have hk16 : k ≤ 16 := by omega
        rw [hm] at F BO
        rw [hk] at F BO
        generalize visTo c o s s = V at *
        clear h2 h3 hm hk hs hV
        go_enter Try.func24, Try.ntmps24
        go_wp2_with fail
        refine (curveOk_any _ _ _).mono ?_
        rintro e w' ⟨rfl, rfl⟩
        go_wp2_with fail
        refine (I.out _).mono ?_
        rintro e w' ⟨rfl, rfl⟩
        go_wp2_with fail
        refine (J.out _).mono ?_
        rintro e w' ⟨rfl, rfl⟩
        go_wp2_with fail
        clear h1
        go_quiet (fail)
        go_wp2_with fail
        simp only [hS]
        go_loopw [10, 12, 13, 38] (fun v _ _ i wr => ∃ y : Nat, y ≤ k ∧ i = .int .i64 y ∧ v = .int .i64 (iszTo V W H m y : Nat) ∧ Below w.heap.size w wr) (fun _ _ _ i _ => k - (intOf i).toNat)
        case atStart => exact ⟨0, Nat.zero_le _, rfl, by rw [T0.out]; rfl, by first | exact Ext.refl _ | exact Ext.drawN (Ext.refl _) _⟩
        case round =>
          obtain ⟨y, hy, rfl, rfl, hb⟩ := hrel
          by_cases hlt : y < k
          · have i0 : (y : Int) < (k : Int) := by omega
            have HT := TL.out m hm16 y
            have TSy := Lib.hid (TS.out m y)
            generalize iszTo V W H m y = q at *
            go_wp2_with fail
            go_loopw [10, 13, 45] (fun v _ i wr => ∃ x : Nat, x ≤ m ∧ i = .int .i64 x ∧ v = .int .i64 ((q + iszRow V W H y x : Nat)) ∧ Below w.heap.size w wr) (fun _ _ i _ => m - (intOf i).toNat)
            case atStart => exact ⟨0, Nat.zero_le _, rfl, by rw [R0.out]; rfl, hb⟩
            case round =>
              obtain ⟨x, hx, rfl, rfl, hb⟩ := hrel
              by_cases hxl : x < m
              · have i1 : (x : Int) < (m : Int) := by omega
                have B := Lib.hid (BX.out _ _ _ _ wr (BO.out x y hxl hlt))
                have HR := RL.out y x
                have RSx := Lib.hid (RS.out y x)
                have PB' := Lib.hid (PB.out ((x : Int), (y : Int)) ((x : Int) + W - 1, (y : Int) + H - 1))
                have pl := PLe.out ((x : Int), (y : Int)) ((x : Int) + W - 1, (y : Int) + H - 1)
                generalize iszRow V W H y x = r at *
                generalize spTo V ((x : Int), (y : Int)) ((x : Int) + W - 1, (y : Int) + H - 1) (s * s) = P at *
                generalize ivN V ((x : Int), (y : Int)) ((x : Int) + W - 1, (y : Int) + H - 1) (s * s) = L at *
                go_wp2_with fail
                refine B.out.mono ?_
                rintro e w2 ⟨g, cap, rfl, hown, hb2⟩
                have C := Lib.hid (PB'.out _ g cap w2 hown)
                clear hown
                go_wp2_with fail
                refine C.out.mono ?_
                rintro e w3 ⟨A, c3, vs, rfl, hM, hb3⟩
                clear hM
                have HB := Ext.then_ hb (Ext.then_ hb2 hb3)
                go_wp2_with fail
                go_roundw
                case rel => exact ⟨x + 1, by omega, by go_num, by rw [RSx.out]; go_num, HB⟩
                case measure => simp [intOf]; omega
              · obtain rfl : x = m := by omega
                go_wp2_with fail
                go_roundw
                case rel => exact ⟨y + 1, by omega, by go_num, by rw [TSy.out], hb⟩
                case measure => simp [intOf]; omega
          · obtain rfl : y = k := by omega
            go_wp2_with fail
            go_ret2
            exact ⟨isz_ret F.out.1 F.out.2, hb⟩
set_option maxRecDepth 100000 in
set_option maxHeartbeats 2000000 in
theorem iszS_any (c o W H : Int) (w : World) :
    Calls Try.prog 23 #[.int .i64 c, .int .i64 o, .int .i64 W, .int .i64 H] w fun e w' => e = .returned (.tuple #[.int .i64 (isz c o W H), .bool (iszOk c o W H)]) ∧ Below w.heap.size w w' := by
  cases h1 : curveOkB c o
  · have F : Hid (isz c o W H = 0 ∧ iszOk c o W H = false) := by simp [Hid, isz, iszOk, h1]
    go_enter Try.func23, Try.ntmps23
    go_wp2_with (go_at_call 57; refine (ask_any _ _ _).mono ?_; rintro e w' ⟨rfl, rfl⟩)
    go_ret2
    exact ⟨isz_ret F.out.1 F.out.2, Ext.refl _⟩
  · obtain ⟨⟨hc0, hc3⟩, h0, h4⟩ := curveOk_iff.1 h1
    have hS1 := side_pos h0 h4
    have hS2 := side_le h0 h4
    have SD := Lib.hid (fun V => sideO_any o V h0 h4)
    cases h2 : inB W 1 (side o)
    · have F : Hid (isz c o W H = 0 ∧ iszOk c o W H = false) := by simp [Hid, isz, iszOk, h1, h2]
      have I := Lib.hid (inS_any W 1 (side o))
      rw [h2] at I
      clear h2
      go_enter Try.func23, Try.ntmps23
      go_wp2_with fail
      refine (ask_any _ _ _).mono ?_
      rintro e w' ⟨rfl, rfl⟩
      go_wp2_with fail
      refine (SD.out _).mono ?_
      rintro e w' ⟨rfl, rfl⟩
      go_wp2_with fail
      refine (I.out _).mono ?_
      rintro e w' ⟨rfl, rfl⟩
      go_wp2_with fail
      go_ret2
      exact ⟨isz_ret F.out.1 F.out.2, Ext.refl _⟩
    · cases h3 : inB H 1 (side o)
      · have F : Hid (isz c o W H = 0 ∧ iszOk c o W H = false) := by simp [Hid, isz, iszOk, h1, h3]
        have I := Lib.hid (inS_any W 1 (side o))
        have J := Lib.hid (inS_any H 1 (side o))
        rw [h2] at I
        rw [h3] at J
        clear h2 h3
        go_enter Try.func23, Try.ntmps23
        go_wp2_with fail
        refine (ask_any _ _ _).mono ?_
        rintro e w' ⟨rfl, rfl⟩
        go_wp2_with fail
        refine (SD.out _).mono ?_
        rintro e w' ⟨rfl, rfl⟩
        go_wp2_with fail
        refine (I.out _).mono ?_
        rintro e w' ⟨rfl, rfl⟩
        go_wp2_with fail
        refine (SD.out _).mono ?_
        rintro e w' ⟨rfl, rfl⟩
        go_wp2_with fail
        refine (J.out _).mono ?_
        rintro e w' ⟨rfl, rfl⟩
        go_wp2_with fail
        go_ret2
        exact ⟨isz_ret F.out.1 F.out.2, Ext.refl _⟩
      · have I := Lib.hid (inS_any W 1 (side o))
        have J := Lib.hid (inS_any H 1 (side o))
        rw [h2] at I
        rw [h3] at J
        obtain ⟨hw1, hw2⟩ := inB_iff.1 h2
        obtain ⟨hh1, hh2⟩ := inB_iff.1 h3
        obtain ⟨s, hs⟩ := Int.eq_ofNat_of_zero_le (show 0 ≤ side o by omega)
        obtain ⟨W, rfl⟩ := Int.eq_ofNat_of_zero_le (show 0 ≤ W by omega)
        obtain ⟨H, rfl⟩ := Int.eq_ofNat_of_zero_le (show 0 ≤ H by omega)
        have F : Hid (isz c o W H = (iszTo (visTo c o s s) W H (s - W + 1) (s - H + 1) : Nat) ∧ iszOk c o W H = true) := by
          have e : iszOk c o W H = true := by simp [iszOk, h1, h2, h3]
          exact ⟨by rw [isz, if_pos e, hs]; rfl, e⟩
        have VS := Lib.hid (fun U => spotsS_any c o U hc0 hc3 h0 h4 s hs)
        rw [hs] at hS1 hS2 hw2 hh2 I J SD
        have hs16 : s ≤ 16 := by omega
        have hss : s * s ≤ 256 := Nat.le_trans (Nat.mul_le_mul hs16 hs16) (by decide)
        have hV := visTo_length c o s s
        have RS := Lib.hid (fun y x => (show iszRow (visTo c o s s) W H y (x + 1) = iszRow (visTo c o s s) W H y x + (spTo (visTo c o s s) ((x : Int), (y : Int)) ((x : Int) + W - 1, (y : Int) + H - 1) (visTo c o s s).length).length from rfl))
        rw [hV] at RS
        have RL := Lib.hid (fun y x => iszRow_le (V := visTo c o s s) (by omega) W H y x)
        have TL := Lib.hid (fun m hm y => iszTo_le (V := visTo c o s s) (by omega) W H m hm y)
        have PLe := Lib.hid (fun f t => spTo_le (visTo c o s s) f t (s * s))
        have TS := Lib.hid (fun m y => (show iszTo (visTo c o s s) W H m (y + 1) = iszTo (visTo c o s s) W H m y + iszRow (visTo c o s s) W H y m from rfl))
        have T0 : Hid (∀ m, iszTo (visTo c o s s) W H m 0 = 0) := fun _ => rfl
        have R0 : Hid (∀ y, iszRow (visTo c o s s) W H y 0 = 0) := fun _ => rfl
        have IV := Lib.hid (fun (g : Nat) (fx fy tx ty : Int) U (h : SpAt U g (visTo c o s s)) => intervalsS_any g (s * s) (s * s) (visTo c o s s) fx fy tx ty U h hV (by omega))
        obtain ⟨m, hm⟩ : ∃ m, s - W + 1 = m := ⟨_, rfl⟩
        obtain ⟨k, hk⟩ : ∃ k, s - H + 1 = k := ⟨_, rfl⟩
        have em : (s : Int) + 1 = m + W := by omega
        have ek : (s : Int) + 1 = k + H := by omega
        have EM := Lib.hid em
        have EK := Lib.hid ek
        have hm16 : m ≤ 16 := by omega
        have hk16 : k ≤ 16 := by omega
        rw [hm] at F
        rw [hk] at F
        generalize visTo c o s s = V at *
        clear h2 h3 hm hk hs hV em ek
        go_enter Try.func23, Try.ntmps23
        go_wp2_with fail
        refine (ask_any _ _ _).mono ?_
        rintro e w' ⟨rfl, rfl⟩
        go_wp2_with fail
        refine (SD.out _).mono ?_
        rintro e w' ⟨rfl, rfl⟩
        go_wp2_with fail
        refine (I.out _).mono ?_
        rintro e w' ⟨rfl, rfl⟩
        go_wp2_with fail
        refine (SD.out _).mono ?_
        rintro e w' ⟨rfl, rfl⟩
        go_wp2_with fail
        refine (J.out _).mono ?_
        rintro e w' ⟨rfl, rfl⟩
        go_wp2_with fail
        clear h1
        refine (VS.out _).mono ?_
        rintro e w1 ⟨rfl, hB, hb1⟩
        have hL := hB.spots
        clear hB
        obtain ⟨g, hg⟩ : ∃ g, g = w.heap.size := ⟨_, rfl⟩
        rw [← hg] at hL
        rw [← hg]
        clear hg
        go_wp2_with (go_at_call 59; refine (SD.out _).mono ?_; rintro e w' ⟨rfl, rfl⟩)
        go_loopw [12, 13, 14] (fun v i _ wr => ∃ y : Nat, y ≤ k ∧ i = .int .i64 y ∧ v = .int .i64 (iszTo V W H m y : Nat) ∧ Below w1.heap.size w1 wr) (fun _ i _ _ => k - (intOf i).toNat)
        case atStart => exact ⟨0, Nat.zero_le _, rfl, by rw [T0.out]; rfl, by first | exact Ext.refl _ | exact Ext.drawN (Ext.refl _) _⟩
        case round =>
          obtain ⟨y, hy, rfl, rfl, hb⟩ := hrel
          by_cases hlt : y < k
          · have t0 : (y : Int) + (H : Int) ≤ (s : Int) := by have := EK.out; omega
            have HT := TL.out m hm16 y
            have TSy := Lib.hid (TS.out m y)
            generalize iszTo V W H m y = q at *
            go_wp2_with fail
            go_loopw [12, 14] (fun v i wr => ∃ x : Nat, x ≤ m ∧ i = .int .i64 x ∧ v = .int .i64 ((q + iszRow V W H y x : Nat)) ∧ Below w1.heap.size w1 wr) (fun _ i _ => m - (intOf i).toNat)
            case atStart => exact ⟨0, Nat.zero_le _, rfl, by rw [R0.out]; rfl, hb⟩
            case round =>
              obtain ⟨x, hx, rfl, rfl, hb⟩ := hrel
              by_cases hxl : x < m
              · have t1 : (x : Int) + (W : Int) ≤ (s : Int) := by have := EM.out; omega
                have B := Lib.hid (IV.out g (x : Int) (y : Int) ((x : Int) + W - 1) ((y : Int) + H - 1) wr (hL.ext hb))
                have HR := RL.out y x
                have RSx := Lib.hid (RS.out y x)
                have pl := PLe.out ((x : Int), (y : Int)) ((x : Int) + W - 1, (y : Int) + H - 1)
                generalize iszRow V W H y x = r at *
                generalize spTo V ((x : Int), (y : Int)) ((x : Int) + W - 1, (y : Int) + H - 1) (s * s) = P at *
                go_wp2_with fail
                refine B.out.mono ?_
                rintro e w3 ⟨A, c3, vs, rfl, hM, hb3⟩
                clear hM
                have HB := Ext.then_ hb hb3
                go_wp2_with fail
                go_roundw
                case rel => exact ⟨x + 1, by omega, by go_num, by rw [RSx.out]; go_num, HB⟩
                case measure => simp [intOf]; omega
              · obtain rfl : x = m := by omega
                have t1 : ¬ (x : Int) + (W : Int) ≤ (s : Int) := by have := EM.out; omega
                go_wp2_with fail
                go_roundw
                case rel => exact ⟨y + 1, by omega, by go_num, by rw [TSy.out], hb⟩
                case measure => simp [intOf]; omega
          · obtain rfl : y = k := by omega
            have t0 : ¬ (y : Int) + (H : Int) ≤ (s : Int) := by have := EK.out; omega
            go_wp2_with fail
            go_ret2
            exact ⟨isz_ret F.out.1 F.out.2, Ext.then_ hb1 hb⟩
end Go.Proofs.Ytbkgmegpgnmlpaa
