/- Spreading errors: one pixel. -/
import Derived.Test.YtdbelajgndclfaaSpG
namespace Go.Proofs.Ytdbelajgndclfaa
open Go.RowKit

theorem bitsTo_skip (b : Nat → Bool) (k n : Nat) (h : b k = false) : bitsTo b (k + 1) n = bitsTo b k n := by
  apply List.ext_getElem
  · simp [bitsTo]
  · intro i h1 h2
    simp only [bitsTo, List.getElem_map, List.getElem_range]
    by_cases e : i = k
    · subst e; rw [if_pos (by omega), if_neg (by omega), h]
    · by_cases hl : i < k
      · rw [if_pos (by omega), if_pos hl]
      · rw [if_neg (by omega), if_neg hl]

theorem enters_give : Enters 96 := enters_of Try.func96 (by kernel_rfl) (by kernel_rfl)
theorem enters_eachS : Enters 100 := enters_of Try.func100 (by kernel_rfl) (by kernel_rfl)

/-- What is held while errors are spread. -/
structure SpdS (w0 : World) (lo po : Nat) (A : Option Addr) (c : Nat) (vs : List Value) (W H : Nat) (s : (Nat → Int) × Int) (L : List Bool) (wr : World) : Prop where
  hei : HeiInv w0 lo po A c vs W H s.1 wr
  lost : Blk wr (po + 1) 2 #[.int .i64 s.2]
  fn : Blk wr (po + 2) 116 #[.func (.func 96) #[] #[.pointer (some ⟨po, 0, none⟩), .pointer (some ⟨po + 1, 0, none⟩)]]
  img : Img wr (po + 4) (po + 3) W H L
  mp : Blk wr (po + 5) 78 #[.pointer (some ⟨po + 4, 0, none⟩)]
section
variable {w0 : World} {lo po : Nat} {A : Option Addr} {c : Nat} {vs : List Value} {W H : Nat} {s s' : (Nat → Int) × Int} {L : List Bool} {wr w' : World}
theorem SpdS.gave (h : SpdS w0 lo po A c vs W H s L wr) (g : GaveTo w0 lo po (po + 1) A c vs W H s' wr w') : SpdS w0 lo po A c vs W H s' L w' :=
  have n : ∀ k, po + 1 < k → ¬ spS lo po (po + 1) k := fun k hk h => by rcases h with h | h <;> omega
  ⟨g.hei, g.lost, h.fn.chg g.chg (n _ (by omega)), h.img.chg g.chg (n _ (by omega)) (n _ (by omega)), h.mp.chg g.chg (n _ (by omega))⟩
theorem SpdS.set (h : SpdS w0 lo po A c vs W H s L wr) (hlo : lo ≤ po) (i : Nat) (b : Bool) : SpdS w0 lo po A c vs W H s (L.set i b) (wr.setCell ⟨po + 3, i, none⟩ (.bool b)).drew :=
  ⟨h.hei.chg (S := fun k => po < k) (((Chg.refl _ _).store (p := ⟨po + 3, i, none⟩) (by show po < po + 3; omega) (.bool b)).drewN 1) (fun _ h => h) hlo, (h.lost.apart (p := ⟨po + 3, i, none⟩) (by show po + 1 ≠ po + 3; omega) (.bool b)), (h.fn.apart (p := ⟨po + 3, i, none⟩) (by show po + 2 ≠ po + 3; omega) (.bool b)), (h.img.put i b).drewN 1, (h.mp.apart (p := ⟨po + 3, i, none⟩) (by show po + 5 ≠ po + 3; omega) (.bool b))⟩
end
theorem part_any (e t : Int) (w : World) (he : -40000 ≤ e ∧ e ≤ 40000) (ht : 0 ≤ t ∧ t ≤ 16) : Calls Try.prog 102 #[.int .i64 e, .int .i64 t] w fun r w' => r = .returned (.int .i64 (e * t / 16)) ∧ w = w' := by
  have hb : -640000 ≤ e * t ∧ e * t ≤ 640000 := by
    have h1 : e * t ≤ 40000 * t := Int.mul_le_mul_of_nonneg_right he.2 ht.1
    have h2 : -40000 * t ≤ e * t := Int.mul_le_mul_of_nonneg_right he.1 ht.1
    omega
  have j0 : IntKind.i64.wrap (e * t) = e * t := IntWalk.i64_in _ (by omega)
  have j1 : wrap64 (e * t) = e * t := IntWalk.wrap64_in _ ⟨by omega, by omega⟩
  go_enter Try.func102, Try.ntmps102
  go_wp2_with fail
  go_ret
  exact ⟨rfl, rfl⟩
theorem give_m (m : Nat) (hm : m < 4) {w0 : World} {lo po : Nat} {A : Option Addr} {c : Nat} {vs : List Value} {W H x y : Nat} {e : Int} {s0 : (Nat → Int) × Int} {L : List Bool} {wr : World} (hlo : lo ≤ po) (hW : W ≤ 16) (hH : H ≤ 16) (hx : x < W) (hy : y < H) (he : -40000 ≤ e ∧ e ≤ 40000)
    (SM : ∀ m, m ≤ 4 → (∀ q, y * W + x < q → q < W * H → -40000 ≤ (spdM W H x y e s0 m).1 q ∧ (spdM W H x y e s0 m).1 q ≤ 40000) ∧ -40000 ≤ (spdM W H x y e s0 m).2 ∧ (spdM W H x y e s0 m).2 ≤ 40000)
    (hS : SpdS w0 lo po A c vs W H (spdM W H x y e s0 m) L wr) :
    Calls Try.prog 96 #[.int .i64 (spdP x y m).1, .int .i64 (spdP x y m).2, .int .i64 (spdN e m), .pointer (some ⟨po, 0, none⟩), .pointer (some ⟨po + 1, 0, none⟩)] wr fun r w' => r = .returned (.tuple #[]) ∧ SpdS w0 lo po A c vs W H (spdM W H x y e s0 (m + 1)) L w' :=
  (give_any w0 lo po (po + 1) A c vs W H _ _ _ _ wr hS.hei hS.lost hlo (by omega) (by omega) hW hH (spdN_small he m) (SM m (by omega)).2
    (fun h => by
      have hb := spdP_behind (m := m) hx hy h
      exact (SM m (by omega)).1 _ hb.1 hb.2)).mono fun r w' hr => ⟨hr.1, hS.gave hr.2⟩

set_option maxRecDepth 100000 in
set_option maxHeartbeats 2000000 in
theorem eachS_any (w0 : World) (lo po : Nat) (A : Option Addr) (c : Nat) (vs : List Value) (W H : Nat) (G : Nat → Int) (x y : Nat) (wr : World) (hlo : lo ≤ po) (hW : W ≤ 16) (hH : H ≤ 16) (hx : x < W) (hy : y < H) (hG : ∀ k, k < W * H → 0 ≤ G k ∧ G k ≤ 99)
    (hS : SpdS w0 lo po A c vs W H (spdTo W H G (y * W + x)) (bitsTo (spdB W H G) (y * W + x) (W * H)) wr) :
    Calls Try.prog 100 #[.int .i64 x, .int .i64 y, .pointer (some ⟨po, 0, none⟩), .pointer (some ⟨po + 5, 0, none⟩), .pointer (some ⟨po + 2, 0, none⟩)] wr fun e w' => e = .returned (.tuple #[]) ∧
      SpdS w0 lo po A c vs W H (spdTo W H G (y * W + x + 1)) (bitsTo (spdB W H G) (y * W + x + 1) (W * H)) w' := by
  have hk : y * W + x < W * H := by
    have := Nat.mul_le_mul_right W (show y + 1 ≤ H by omega)
    rw [Nat.succ_mul, Nat.mul_comm H W] at this; omega
  have hv := spd_at hW hH hG hk
  have SM := Lib.hid (fun m (hm : m ≤ 4) => spd_small hW hH hG hk hm)
  have TO : Hid (spdTo W H G (y * W + x + 1) = spdM W H x y (errE ((spdTo W H G (y * W + x)).1 (y * W + x))) (spdTo W H G (y * W + x)) 4) := by
    show spdTo W H G (y * W + x + 1) = _
    rw [spdTo, plM hx, plD hx]
  rw [plM hx, plD hx] at SM
  have B1 := Lib.hid (bitsTo_succ (spdB W H G) (y * W + x) (W * H))
  have B0 := Lib.hid (bitsTo_skip (spdB W H G) (y * W + x) (W * H))
  have SB : Hid (spdB W H G (y * W + x) = decide ((spdTo W H G (y * W + x)).1 (y * W + x) < 50)) := rfl
  clear hG
  generalize spdTo W H G (y * W + x + 1) = s1 at *
  generalize bitsTo (spdB W H G) (y * W + x + 1) (W * H) = l1 at *
  generalize bitsTo (spdB W H G) (y * W + x) (W * H) = l0 at *
  generalize spdB W H G (y * W + x) = bk at *
  generalize spdTo W H G (y * W + x) = s0 at *
  obtain ⟨g, gr, cy, rfl, q1, q2, q3, q4, q5, q6, q7, _⟩ := hS.hei.put hx hy
  have k0 := hS.hei.box.cell 0
  have km := hS.mp.cell 0
  simp at k0 km
  have ST := Lib.hid (fun b => hS.set hlo (y * W + x) b)
  have IMG := Lib.hid (set_any (po + 4) (po + 3) W H l0 x y true wr hS.img (by omega) (by omega) hx hy)
  have HS := Lib.hid hS
  have i1 : (x : Int) < W := by omega
  have i2 : (y : Int) < H := by omega
  clear hS
  have V := Lib.hid (show s0.1 (y * W + x) = s0.1 (y * W + x) from rfl)
  generalize hvv : s0.1 (y * W + x) = v at *
  have HVV := Lib.hid hvv
  clear hvv V
  have en := enters_give
  unfold Enters at en
  go_enter Try.func100, Try.ntmps100
  by_cases hlt : v < 50
  case' pos =>
    have hb : bk = true := by rw [SB.out]; simpa using hlt
    have hE : errE v = v := by simp [errE, hlt]
    rw [hE] at TO SM
    have S1 := Lib.hid (ST.out bk)
    rw [B1.out, hb] at S1
    clear SB B0 B1 ST hb hE
    go_wp2_with fail
    refine IMG.out.mono ?_
    rintro r w1 ⟨rfl, rfl⟩
    clear IMG HS k0 km q1 q2 q3 q4 q5 q6 q7
    generalize (wr.setCell ⟨po + 3, y * W + x, none⟩ (.bool true)).drew = w1 at *
    generalize v = e at *
    clear hlt
    go_wp2_with fail
  case' neg =>
    have hb : bk = false := by rw [SB.out]; simpa using hlt
    have hE : errE v = v - 99 := by simp [errE, hlt]
    have j0 : IntKind.i64.wrap (v - 99) = v - 99 := IntWalk.i64_in _ (by omega)
    rw [hE] at TO SM
    have S1 := Lib.hid HS.out
    rw [← B0.out hb] at S1
    clear SB B0 B1 ST hb hE IMG HS
    go_wp2_with fail
    clear k0 km q1 q2 q3 q4 q5 q6 q7
    obtain ⟨w1, rfl⟩ : ∃ w1 : World, w1 = wr := ⟨_, rfl⟩
    have hv' : -40000 ≤ v - 99 ∧ v - 99 ≤ 40000 := by omega
    replace hv := hv'
    clear hv' j0 hlt
    generalize v - 99 = e at *
  all_goals
    have n0 := spdN_small hv 0
    have n1 := spdN_small hv 1
    have n2 := spdN_small hv 2
    have n3 := spdN_small hv 3
    simp only [spdN] at n0 n1 n2 n3
    have P7 := Lib.hid (fun V => (show Calls Try.prog 102 #[.int .i64 e, .int .i64 7] V fun r w' => r = .returned (.int .i64 (shR e)) ∧ V = w' from part_any e 7 V hv (by decide)))
    have P3 := Lib.hid (fun V => (show Calls Try.prog 102 #[.int .i64 e, .int .i64 3] V fun r w' => r = .returned (.int .i64 (shL e)) ∧ V = w' from part_any e 3 V hv (by decide)))
    have P5 := Lib.hid (fun V => (show Calls Try.prog 102 #[.int .i64 e, .int .i64 5] V fun r w' => r = .returned (.int .i64 (shU e)) ∧ V = w' from part_any e 5 V hv (by decide)))
    have kf := S1.out.fn.cell 0
    simp at kf
    have j1 : IntKind.i64.wrap ((x : Int) + 1) = (x : Int) + 1 := IntWalk.i64_in _ (by omega)
    have j2 : IntKind.i64.wrap ((x : Int) - 1) = (x : Int) - 1 := IntWalk.i64_in _ (by omega)
    have j3 : IntKind.i64.wrap ((y : Int) + 1) = (y : Int) + 1 := IntWalk.i64_in _ (by omega)
    have j4 : IntKind.i64.wrap (e - shR e) = e - shR e := IntWalk.i64_in _ (by omega)
    have j5 : IntKind.i64.wrap (e - shR e - shL e) = e - shR e - shL e := IntWalk.i64_in _ (by omega)
    have j6 : IntKind.i64.wrap (e - shR e - shL e - shU e) = e - shR e - shL e - shU e := IntWalk.i64_in _ (by omega)
    refine (P7.out _).mono ?_
    rintro r w' ⟨rfl, rfl⟩
    go_wp2_with fail
    refine (P3.out _).mono ?_
    rintro r w' ⟨rfl, rfl⟩
    go_wp2_with fail
    refine (P5.out _).mono ?_
    rintro r w' ⟨rfl, rfl⟩
    go_wp2_with fail
    refine (give_m 0 (by omega) hlo hW hH hx hy hv SM.out S1.out).mono ?_
    rintro r w2 ⟨rfl, s2⟩
    have S2 := Lib.hid s2
    clear s2 kf
    have kf := S2.out.fn.cell 0
    simp at kf
    go_wp2_with fail
    refine (give_m 1 (by omega) hlo hW hH hx hy hv SM.out S2.out).mono ?_
    rintro r w3 ⟨rfl, s3⟩
    have S3 := Lib.hid s3
    clear s3 kf
    have kf := S3.out.fn.cell 0
    simp at kf
    go_wp2_with fail
    refine (give_m 2 (by omega) hlo hW hH hx hy hv SM.out S3.out).mono ?_
    rintro r w4 ⟨rfl, s4⟩
    have S4 := Lib.hid s4
    clear s4 kf
    have kf := S4.out.fn.cell 0
    simp at kf
    go_wp2_with fail
    refine (give_m 3 (by omega) hlo hW hH hx hy hv SM.out S4.out).mono ?_
    rintro r w5 ⟨rfl, s5⟩
    have S5 := Lib.hid s5
    clear s5 kf
    go_wp2_with fail
    go_end0
    exact ⟨rfl, by rw [TO.out]; exact S5.out⟩
end Go.Proofs.Ytdbelajgndclfaa
