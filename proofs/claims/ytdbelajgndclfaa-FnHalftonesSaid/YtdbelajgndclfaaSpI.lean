/- Spreading errors: a part is given to a pixel, or is lost. Spreading errors: one pixel. remade, by a bound method. The program's SpreadGrey. -/
import Derived.Test.YtdbelajgndclfaaHei
import Derived.Test.YtdbelajgndclfaaSpd
import Derived.Test.YtdbelajgndclfaaRem
import Derived.Laws.EntriesVeiled
import Derived.Deep.RegionLaw
namespace Go.Proofs.Ytdbelajgndclfaa
open Go.RowKit

theorem Blk.chg {S : Nat → Prop} {w w' : World} {g : Nat} {t : TypeId} {cs : Array Value} (h : Blk w g t cs) (hb : Chg S w w') (hs : ¬ S g) : Blk w' g t cs := (hb.block g h.lt hs).trans h
theorem Img.chg {S : Nat → Prop} {w w' : World} {p g W H : Nat} {L : List Bool} (h : Img w p g W H L) (hb : Chg S w w') (hp : ¬ S p) (hg : ¬ S g) : Img w' p g W H L :=
  ⟨h.hdr.chg hb hp, h.bits.chg hb hg, h.len⟩

theorem Chg.narrow {S : Nat → Prop} {a b : World} (h : Chg (fun k => a.heap.size ≤ k) a b) : Chg S a b :=
  ⟨h.os, h.tape, h.output, h.size, fun j hj _ => h.block j hj (by omega)⟩
theorem HeiInv.chg {S : Nat → Prop} {w0 : World} {lo po : Nat} {A : Option Addr} {c : Nat} {vs : List Value} {W H : Nat} {O : Nat → Int} {wr w' : World} (h : HeiInv w0 lo po A c vs W H O wr) (hb : Chg S wr w') (hs : ∀ k, S k → po < k) (hlo : lo ≤ po) : HeiInv w0 lo po A c vs W H O w' :=
  ⟨h.box.chg hb (fun k => absurd (hs _ k) (Nat.lt_irrefl _)), h.mat.keep (hb.mono hs) (fun b h1 h2 h3 => by omega), h.ext.trans ((hb.mono hs).below (fun k hk => by omega) (by have := h.box.lt; omega))⟩
theorem HeiInv.apart {w0 : World} {lo po : Nat} {A : Option Addr} {c : Nat} {vs : List Value} {W H : Nat} {O : Nat → Int} {wr : World} (h : HeiInv w0 lo po A c vs W H O wr) {p : Addr} (hp : po < p.block) (hlo : lo ≤ po) (u : Value) : HeiInv w0 lo po A c vs W H O (wr.setCell p u) :=
  h.chg (S := fun k => po < k) ((Chg.refl _ _).store hp u) (fun _ h => h) hlo

/-- What is written while errors are spread: the numbers between lo and po, and the block of what is lost. -/
def spS (lo po lb : Nat) (b : Nat) : Prop := (lo ≤ b ∧ b < po) ∨ b = lb
/-- Behind the giving of a part. -/
structure GaveTo (w0 : World) (lo po lb : Nat) (A : Option Addr) (c : Nat) (vs : List Value) (W H : Nat) (s : (Nat → Int) × Int) (wr w' : World) : Prop where
  hei : HeiInv w0 lo po A c vs W H s.1 w'
  lost : Blk w' lb 2 #[.int .i64 s.2]
  chg : Chg (spS lo po lb) wr w'

theorem giveO_in {W H x y : Nat} {n : Int} {s : (Nat → Int) × Int} (h : inG W H ((x : Int), (y : Int)) = true) : giveO W H ((x : Int), (y : Int)) n s = (setF s.1 (y * W + x) (s.1 (y * W + x) + n), s.2) := by
  have e : plc W ((x : Int), (y : Int)) = y * W + x := by simp [plc]
  rw [giveO, if_pos h, e]
theorem giveO_out {W H : Nat} {p : Int × Int} {n : Int} {s : (Nat → Int) × Int} (h : inG W H p = false) : giveO W H p n s = (s.1, s.2 + n) := by
  rw [giveO, if_neg (by rw [h]; decide)]

set_option maxRecDepth 100000 in
set_option maxHeartbeats 1000000 in
theorem give_any (w0 : World) (lo po lb : Nat) (A : Option Addr) (c : Nat) (vs : List Value) (W H : Nat) (s : (Nat → Int) × Int) (x y n : Int) (wr : World)
    (hI : HeiInv w0 lo po A c vs W H s.1 wr) (hL : Blk wr lb 2 #[.int .i64 s.2]) (hlo : lo ≤ po) (hlb : po < lb) (hH0 : 0 < H) (hW : W ≤ 16) (hH : H ≤ 16)
    (hn : -40000 ≤ n ∧ n ≤ 40000) (hs : -40000 ≤ s.2 ∧ s.2 ≤ 40000) (hv : inG W H (x, y) = true → -40000 ≤ s.1 (plc W (x, y)) ∧ s.1 (plc W (x, y)) ≤ 40000) :
    Calls Try.prog 96 #[.int .i64 x, .int .i64 y, .int .i64 n, .pointer (some ⟨po, 0, none⟩), .pointer (some ⟨lb, 0, none⟩)] wr fun e w' => e = .returned (.tuple #[]) ∧ GaveTo w0 lo po lb A c vs W H (giveO W H (x, y) n s) wr w' := by
  have T1 : Blk (wr.alloc (.cells #[.int .i64 x, .int .i64 y] 114)) wr.heap.size 114 #[.int .i64 x, .int .i64 y] := Blk.made _ _ _
  have B1 : Below wr.heap.size wr (wr.alloc (.cells #[.int .i64 x, .int .i64 y] 114)) := Ext.more (Ext.refl _) _
  have HI := Lib.hid hI
  have HL := Lib.hid hL
  have HV := Lib.hid hv
  have HS := Lib.hid (fun V (hb : Below wr.heap.size wr V) => g_has (hI.step hb hlo).grey (by rw [tabW_gO _ hH0]) (gO_length _ _ _) hH0 (by omega) (by omega) x y)
  clear hI hL hv
  go_enter Try.func96, Try.ntmps96
  go_wp2_with fail
  refine (HS.out _ B1).mono ?_
  rintro e w2 ⟨rfl, hb2⟩
  have B2 := Ext.then_ B1 hb2
  have hz2 := B2.size
  have L2 := HL.out.under B2 HL.out.lt
  have CG : Chg (spS lo po lb) wr w2 := (Chg.of_below B2).narrow
  have I2 := HI.out.step B2 hlo
  have lbl := HL.out.lt
  clear T1 B1 HS hb2
  by_cases hin : inG W H (x, y) = true
  · obtain ⟨⟨p1, p2⟩, p3, p4⟩ := inG_iff.1 hin
    have hv := HV.out hin
    obtain ⟨a, rfl⟩ : ∃ a : Nat, x = a := ⟨x.toNat, by simp only at p1; omega⟩
    obtain ⟨b, rfl⟩ : ∃ b : Nat, y = b := ⟨y.toNat, by simp only at p3; omega⟩
    have ha : a < W := by simp only at p2; omega
    have hb : b < H := by simp only at p4; omega
    have e : plc W ((a : Int), (b : Int)) = b * W + a := by simp [plc]
    rw [e] at hv
    have GO := Lib.hid (giveO_in (n := n) (s := s) hin)
    obtain ⟨g, gr, cy, rfl, q1, q2, q3, q4, q5, q6, q7, q8⟩ := I2.put ha hb
    have k0 := I2.box.cell 0
    simp at k0
    have SP := Lib.hid (q8 (s.1 (b * W + a) + n))
    clear q8 HV HI e
    have j0 : IntKind.i64.wrap (s.1 (b * W + a) + n) = s.1 (b * W + a) + n := IntWalk.i64_in _ (by omega)
    generalize s.1 (b * W + a) = v at *
    have i1 : (a : Int) < W := by omega
    have i2 : (b : Int) < H := by omega
    have L3 := Lib.hid (L2.apart (p := ⟨gr, a, none⟩) (by show lb ≠ gr; omega) (.int .i64 (v + n)))
    have C3 := Lib.hid (CG.store (p := ⟨gr, a, none⟩) (Or.inl ⟨q3, q4⟩) (.int .i64 (v + n)))
    clear L2 CG
    go_wp2_with fail
    go_end0
    exact ⟨rfl, by rw [GO.out]; exact ⟨SP.out, L3.out, C3.out⟩⟩
  · have hno : inG W H (x, y) = false := by simpa using hin
    have j0 : IntKind.i64.wrap (s.2 + n) = s.2 + n := IntWalk.i64_in _ (by omega)
    have GO := Lib.hid (giveO_out (n := n) (s := s) hno)
    have k0 := L2.cell 0
    have f0 := L2.free 0
    simp at k0
    have L3 := Lib.hid (L2.store 0 (.int .i64 (s.2 + n)))
    have C3 := Lib.hid (CG.store (p := ⟨lb, 0, none⟩) (Or.inr rfl) (.int .i64 (s.2 + n)))
    have I3 := Lib.hid (HeiInv.apart I2 (p := ⟨lb, 0, none⟩) hlb hlo (.int .i64 (s.2 + n)))
    clear L2 CG HV HI I2
    go_wp2_with fail
    go_end0
    exact ⟨rfl, by rw [GO.out]; exact ⟨I3.out, L3.out, C3.out⟩⟩
end Go.Proofs.Ytdbelajgndclfaa

namespace Go.Proofs.Ytdbelajgndclfaa
open Go.RowKit

theorem bitsTo_skip (b : Nat → Bool) (k n : Nat) (h : b k = false) : bitsTo b (k + 1) n = bitsTo b k n := by
  apply List.ext_getElem
  · simp [bitsTo]
  · intro i h1 h2
    simp only [bitsTo, List.getElem_map, List.getElem_range]
    by_cases e : i = k
    · subst e; rw [if_pos (by omega), if_neg (by omega), h]
    · by_cases hl : i < k
      · rw [if_pos (by omega), if_pos hl]
      · rw [if_neg (by omega), if_neg hl]

theorem enters_give : Enters 96 := enters_of Try.func96 (by kernel_rfl) (by kernel_rfl)
theorem enters_eachS : Enters 100 := enters_of Try.func100 (by kernel_rfl) (by kernel_rfl)

/-- What is held while errors are spread. -/
structure SpdS (w0 : World) (lo po : Nat) (A : Option Addr) (c : Nat) (vs : List Value) (W H : Nat) (s : (Nat → Int) × Int) (L : List Bool) (wr : World) : Prop where
  hei : HeiInv w0 lo po A c vs W H s.1 wr
  lost : Blk wr (po + 1) 2 #[.int .i64 s.2]
  fn : Blk wr (po + 2) 116 #[.func (.func 96) #[] #[.pointer (some ⟨po, 0, none⟩), .pointer (some ⟨po + 1, 0, none⟩)]]
  img : Img wr (po + 4) (po + 3) W H L
  mp : Blk wr (po + 5) 78 #[.pointer (some ⟨po + 4, 0, none⟩)]
section
variable {w0 : World} {lo po : Nat} {A : Option Addr} {c : Nat} {vs : List Value} {W H : Nat} {s s' : (Nat → Int) × Int} {L : List Bool} {wr w' : World}
theorem SpdS.gave (h : SpdS w0 lo po A c vs W H s L wr) (g : GaveTo w0 lo po (po + 1) A c vs W H s' wr w') : SpdS w0 lo po A c vs W H s' L w' :=
  have n : ∀ k, po + 1 < k → ¬ spS lo po (po + 1) k := fun k hk h => by rcases h with h | h <;> omega
  ⟨g.hei, g.lost, h.fn.chg g.chg (n _ (by omega)), h.img.chg g.chg (n _ (by omega)) (n _ (by omega)), h.mp.chg g.chg (n _ (by omega))⟩
theorem SpdS.set (h : SpdS w0 lo po A c vs W H s L wr) (hlo : lo ≤ po) (i : Nat) (b : Bool) : SpdS w0 lo po A c vs W H s (L.set i b) (wr.setCell ⟨po + 3, i, none⟩ (.bool b)).drew :=
  ⟨h.hei.chg (S := fun k => po < k) (((Chg.refl _ _).store (p := ⟨po + 3, i, none⟩) (by show po < po + 3; omega) (.bool b)).drewN 1) (fun _ h => h) hlo, (h.lost.apart (p := ⟨po + 3, i, none⟩) (by show po + 1 ≠ po + 3; omega) (.bool b)), (h.fn.apart (p := ⟨po + 3, i, none⟩) (by show po + 2 ≠ po + 3; omega) (.bool b)), (h.img.put i b).drewN 1, (h.mp.apart (p := ⟨po + 3, i, none⟩) (by show po + 5 ≠ po + 3; omega) (.bool b))⟩
end
theorem part_any (e t : Int) (w : World) (he : -40000 ≤ e ∧ e ≤ 40000) (ht : 0 ≤ t ∧ t ≤ 16) : Calls Try.prog 102 #[.int .i64 e, .int .i64 t] w fun r w' => r = .returned (.int .i64 (e * t / 16)) ∧ w = w' := by
  have hb : -640000 ≤ e * t ∧ e * t ≤ 640000 := by
    have h1 : e * t ≤ 40000 * t := Int.mul_le_mul_of_nonneg_right he.2 ht.1
    have h2 : -40000 * t ≤ e * t := Int.mul_le_mul_of_nonneg_right he.1 ht.1
    omega
  have j0 : IntKind.i64.wrap (e * t) = e * t := IntWalk.i64_in _ (by omega)
  have j1 : wrap64 (e * t) = e * t := IntWalk.wrap64_in _ ⟨by omega, by omega⟩
  go_enter Try.func102, Try.ntmps102
  go_wp2_with fail
  go_ret
  exact ⟨rfl, rfl⟩
theorem give_m (m : Nat) (hm : m < 4) {w0 : World} {lo po : Nat} {A : Option Addr} {c : Nat} {vs : List Value} {W H x y : Nat} {e : Int} {s0 : (Nat → Int) × Int} {L : List Bool} {wr : World} (hlo : lo ≤ po) (hW : W ≤ 16) (hH : H ≤ 16) (hx : x < W) (hy : y < H) (he : -40000 ≤ e ∧ e ≤ 40000)
    (SM : ∀ m, m ≤ 4 → (∀ q, y * W + x < q → q < W * H → -40000 ≤ (spdM W H x y e s0 m).1 q ∧ (spdM W H x y e s0 m).1 q ≤ 40000) ∧ -40000 ≤ (spdM W H x y e s0 m).2 ∧ (spdM W H x y e s0 m).2 ≤ 40000)
    (hS : SpdS w0 lo po A c vs W H (spdM W H x y e s0 m) L wr) :
    Calls Try.prog 96 #[.int .i64 (spdP x y m).1, .int .i64 (spdP x y m).2, .int .i64 (spdN e m), .pointer (some ⟨po, 0, none⟩), .pointer (some ⟨po + 1, 0, none⟩)] wr fun r w' => r = .returned (.tuple #[]) ∧ SpdS w0 lo po A c vs W H (spdM W H x y e s0 (m + 1)) L w' :=
  (give_any w0 lo po (po + 1) A c vs W H _ _ _ _ wr hS.hei hS.lost hlo (by omega) (by omega) hW hH (spdN_small he m) (SM m (by omega)).2
    (fun h => by
      have hb := spdP_behind (m := m) hx hy h
      exact (SM m (by omega)).1 _ hb.1 hb.2)).mono fun r w' hr => ⟨hr.1, hS.gave hr.2⟩

set_option maxRecDepth 100000 in
set_option maxHeartbeats 2000000 in
theorem eachS_any (w0 : World) (lo po : Nat) (A : Option Addr) (c : Nat) (vs : List Value) (W H : Nat) (G : Nat → Int) (x y : Nat) (wr : World) (hlo : lo ≤ po) (hW : W ≤ 16) (hH : H ≤ 16) (hx : x < W) (hy : y < H) (hG : ∀ k, k < W * H → 0 ≤ G k ∧ G k ≤ 99)
    (hS : SpdS w0 lo po A c vs W H (spdTo W H G (y * W + x)) (bitsTo (spdB W H G) (y * W + x) (W * H)) wr) :
    Calls Try.prog 100 #[.int .i64 x, .int .i64 y, .pointer (some ⟨po, 0, none⟩), .pointer (some ⟨po + 5, 0, none⟩), .pointer (some ⟨po + 2, 0, none⟩)] wr fun e w' => e = .returned (.tuple #[]) ∧
      SpdS w0 lo po A c vs W H (spdTo W H G (y * W + x + 1)) (bitsTo (spdB W H G) (y * W + x + 1) (W * H)) w' := by
  have hk : y * W + x < W * H := by
    have := Nat.mul_le_mul_right W (show y + 1 ≤ H by omega)
    rw [Nat.succ_mul, Nat.mul_comm H W] at this; omega
  have hv := spd_at hW hH hG hk
  have SM := Lib.hid (fun m (hm : m ≤ 4) => spd_small hW hH hG hk hm)
  have TO : Hid (spdTo W H G (y * W + x + 1) = spdM W H x y (errE ((spdTo W H G (y * W + x)).1 (y * W + x))) (spdTo W H G (y * W + x)) 4) := by
    show spdTo W H G (y * W + x + 1) = _
    rw [spdTo, plM hx, plD hx]
  rw [plM hx, plD hx] at SM
  have B1 := Lib.hid (bitsTo_succ (spdB W H G) (y * W + x) (W * H))
  have B0 := Lib.hid (bitsTo_skip (spdB W H G) (y * W + x) (W * H))
  have SB : Hid (spdB W H G (y * W + x) = decide ((spdTo W H G (y * W + x)).1 (y * W + x) < 50)) := rfl
  clear hG
  generalize spdTo W H G (y * W + x + 1) = s1 at *
  generalize bitsTo (spdB W H G) (y * W + x + 1) (W * H) = l1 at *
  generalize bitsTo (spdB W H G) (y * W + x) (W * H) = l0 at *
  generalize spdB W H G (y * W + x) = bk at *
  generalize spdTo W H G (y * W + x) = s0 at *
  obtain ⟨g, gr, cy, rfl, q1, q2, q3, q4, q5, q6, q7, _⟩ := hS.hei.put hx hy
  have k0 := hS.hei.box.cell 0
  have km := hS.mp.cell 0
  simp at k0 km
  have ST := Lib.hid (fun b => hS.set hlo (y * W + x) b)
  have IMG := Lib.hid (set_any (po + 4) (po + 3) W H l0 x y true wr hS.img (by omega) (by omega) hx hy)
  have HS := Lib.hid hS
  have i1 : (x : Int) < W := by omega
  have i2 : (y : Int) < H := by omega
  clear hS
  have V := Lib.hid (show s0.1 (y * W + x) = s0.1 (y * W + x) from rfl)
  generalize hvv : s0.1 (y * W + x) = v at *
  have HVV := Lib.hid hvv
  clear hvv V
  have en := enters_give
  unfold Enters at en
  go_enter Try.func100, Try.ntmps100
  by_cases hlt : v < 50
  case' pos =>
    have hb : bk = true := by rw [SB.out]; simpa using hlt
    have hE : errE v = v := by simp [errE, hlt]
    rw [hE] at TO SM
    have S1 := Lib.hid (ST.out bk)
    rw [B1.out, hb] at S1
    clear SB B0 B1 ST hb hE
    go_wp2_with fail
    refine IMG.out.mono ?_
    rintro r w1 ⟨rfl, rfl⟩
    clear IMG HS k0 km q1 q2 q3 q4 q5 q6 q7
    generalize (wr.setCell ⟨po + 3, y * W + x, none⟩ (.bool true)).drew = w1 at *
    generalize v = e at *
    clear hlt
    go_wp2_with fail
  case' neg =>
    have hb : bk = false := by rw [SB.out]; simpa using hlt
    have hE : errE v = v - 99 := by simp [errE, hlt]
    have j0 : IntKind.i64.wrap (v - 99) = v - 99 := IntWalk.i64_in _ (by omega)
    rw [hE] at TO SM
    have S1 := Lib.hid HS.out
    rw [← B0.out hb] at S1
    clear SB B0 B1 ST hb hE IMG HS
    go_wp2_with fail
    clear k0 km q1 q2 q3 q4 q5 q6 q7
    obtain ⟨w1, rfl⟩ : ∃ w1 : World, w1 = wr := ⟨_, rfl⟩
    have hv' : -40000 ≤ v - 99 ∧ v - 99 ≤ 40000 := by omega
    replace hv := hv'
    clear hv' j0 hlt
    generalize v - 99 = e at *
  all_goals
    have n0 := spdN_small hv 0
    have n1 := spdN_small hv 1
    have n2 := spdN_small hv 2
    have n3 := spdN_small hv 3
    simp only [spdN] at n0 n1 n2 n3
    have P7 := Lib.hid (fun V => (show Calls Try.prog 102 #[.int .i64 e, .int .i64 7] V fun r w' => r = .returned (.int .i64 (shR e)) ∧ V = w' from part_any e 7 V hv (by decide)))
    have P3 := Lib.hid (fun V => (show Calls Try.prog 102 #[.int .i64 e, .int .i64 3] V fun r w' => r = .returned (.int .i64 (shL e)) ∧ V = w' from part_any e 3 V hv (by decide)))
    have P5 := Lib.hid (fun V => (show Calls Try.prog 102 #[.int .i64 e, .int .i64 5] V fun r w' => r = .returned (.int .i64 (shU e)) ∧ V = w' from part_any e 5 V hv (by decide)))
    have kf := S1.out.fn.cell 0
    simp at kf
    have j1 : IntKind.i64.wrap ((x : Int) + 1) = (x : Int) + 1 := IntWalk.i64_in _ (by omega)
    have j2 : IntKind.i64.wrap ((x : Int) - 1) = (x : Int) - 1 := IntWalk.i64_in _ (by omega)
    have j3 : IntKind.i64.wrap ((y : Int) + 1) = (y : Int) + 1 := IntWalk.i64_in _ (by omega)
    have j4 : IntKind.i64.wrap (e - shR e) = e - shR e := IntWalk.i64_in _ (by omega)
    have j5 : IntKind.i64.wrap (e - shR e - shL e) = e - shR e - shL e := IntWalk.i64_in _ (by omega)
    have j6 : IntKind.i64.wrap (e - shR e - shL e - shU e) = e - shR e - shL e - shU e := IntWalk.i64_in _ (by omega)
    refine (P7.out _).mono ?_
    rintro r w' ⟨rfl, rfl⟩
    go_wp2_with fail
    refine (P3.out _).mono ?_
    rintro r w' ⟨rfl, rfl⟩
    go_wp2_with fail
    refine (P5.out _).mono ?_
    rintro r w' ⟨rfl, rfl⟩
    go_wp2_with fail
    refine (give_m 0 (by omega) hlo hW hH hx hy hv SM.out S1.out).mono ?_
    rintro r w2 ⟨rfl, s2⟩
    have S2 := Lib.hid s2
    clear s2 kf
    have kf := S2.out.fn.cell 0
    simp at kf
    go_wp2_with fail
    refine (give_m 1 (by omega) hlo hW hH hx hy hv SM.out S2.out).mono ?_
    rintro r w3 ⟨rfl, s3⟩
    have S3 := Lib.hid s3
    clear s3 kf
    have kf := S3.out.fn.cell 0
    simp at kf
    go_wp2_with fail
    refine (give_m 2 (by omega) hlo hW hH hx hy hv SM.out S3.out).mono ?_
    rintro r w4 ⟨rfl, s4⟩
    have S4 := Lib.hid s4
    clear s4 kf
    have kf := S4.out.fn.cell 0
    simp at kf
    go_wp2_with fail
    refine (give_m 3 (by omega) hlo hW hH hx hy hv SM.out S4.out).mono ?_
    rintro r w5 ⟨rfl, s5⟩
    have S5 := Lib.hid s5
    clear s5 kf
    go_wp2_with fail
    go_end0
    exact ⟨rfl, by rw [TO.out]; exact S5.out⟩
end Go.Proofs.Ytdbelajgndclfaa

namespace Go.Proofs.Ytdbelajgndclfaa
open Go.RowKit

set_option maxHeartbeats 400000 in
theorem remade1f_any (t x y : Nat) (K : FuncId) (q : Nat) (v : Int) (w : World) (ht : w.cell? ⟨t, 0, none⟩ = some (.func (.func K) #[.pointer (some ⟨q, 0, none⟩)] #[])) (hK : Enters K)
    (hF : Calls Try.prog K #[.pointer (some ⟨q, 0, none⟩), .agg #[.int .i64 x, .int .i64 y]] w fun e w' => e = .returned (.int .i64 v) ∧ Below w.heap.size w w') :
    Calls Try.prog 136 #[.int .i64 x, .int .i64 y, .pointer (some ⟨t, 0, none⟩)] w fun e w' => e = .returned (.int .i64 v) ∧ Below w.heap.size w w' := by
  have FH := Lib.hid hF
  clear hF
  unfold Enters at hK
  go_enter Try.func136, Try.ntmps136
  go_wp2_with fail
  refine FH.out.mono ?_
  rintro e w2 ⟨rfl, hb⟩
  go_wp2_with fail
  go_ret
  exact ⟨rfl, hb⟩
set_option maxRecDepth 100000 in
set_option maxHeartbeats 1000000 in
theorem remadeF_any (p : Nat) (A : Option Addr) (c : Nat) (rows : List (List Int)) (K : FuncId) (q : Nat) (O : Nat → Int) (W H : Nat) (w : World) (h : GreyAt w p A c rows) (hW0 : tabW rows = W) (hH0 : rows.length = H) (hH1 : 0 < H) (hW : W ≤ 1000) (hH : H ≤ 1000) (hK : Enters K)
    (hF : ∀ (x y : Nat), x < W → y < H → ∀ wr, Below w.heap.size w wr → Calls Try.prog K #[.pointer (some ⟨q, 0, none⟩), .agg #[.int .i64 x, .int .i64 y]] wr fun e w' => e = .returned (.int .i64 (O (y * W + x))) ∧ Below wr.heap.size wr w') :
    Calls Try.prog 94 #[.pointer (some ⟨p, 0, none⟩), .func (.func K) #[.pointer (some ⟨q, 0, none⟩)] #[]] w fun e w' => ∃ A c vs, e = .returned (.agg #[.slice A H c]) ∧ MatAt w' w.heap.size w'.heap.size A c vs (gO O W H) ∧ Below w.heap.size w w' := by
  have T1 : Blk ((w.alloc (.cells #[.func (.func K) #[.pointer (some ⟨q, 0, none⟩)] #[]] 112)).alloc (.cells #[.slice none 0 0] 39)) w.heap.size 112 #[.func (.func K) #[.pointer (some ⟨q, 0, none⟩)] #[]] := (Blk.made _ _ _).more _
  have T2 : Blk ((w.alloc (.cells #[.func (.func K) #[.pointer (some ⟨q, 0, none⟩)] #[]] 112)).alloc (.cells #[.slice none 0 0] 39)) (w.heap.size + 1) 39 #[.slice none 0 0] := by
    have := Blk.made (w.alloc (.cells #[.func (.func K) #[.pointer (some ⟨q, 0, none⟩)] #[]] 112)) 39 #[.slice none 0 0]
    simpa using this
  have B1 : Below w.heap.size w ((w.alloc (.cells #[.func (.func K) #[.pointer (some ⟨q, 0, none⟩)] #[]] 112)).alloc (.cells #[.slice none 0 0] 39)) := Ext.more (Ext.more (Ext.refl _) _) _
  have SZ := Lib.hid (sizes_any p A c rows _ (h.ext B1) (by omega))
  rw [hW0, hH0] at SZ
  have z1 : ((w.alloc (.cells #[.func (.func K) #[.pointer (some ⟨q, 0, none⟩)] #[]] 112)).alloc (.cells #[.slice none 0 0] 39)).heap.size = w.heap.size + 1 + 1 := by simp
  have Z1 := Lib.hid z1
  clear z1
  have FH := Lib.hid hF
  have hmf : ∀ (fn : Fn) (first cap : Array Value) (w : World), (Instr.makeFunc fn first cap).run Try.prog w = .ok (.func fn first cap) w := fun _ _ _ _ => rfl
  clear h hW0 hH0 hF
  go_enter Try.func94, Try.ntmps94
  go_wp2_with fail
  generalize hw1 : (w.alloc (.cells #[.func (.func K) #[.pointer (some ⟨q, 0, none⟩)] #[]] 112)).alloc (.cells #[.slice none 0 0] 39) = w1 at *
  refine SZ.out.mono ?_
  rintro e w2 ⟨rfl, n, rfl⟩
  go_wp2_with fail
  refine (blank_any W H _ hW hH).mono ?_
  rintro e w' ⟨rfl, rfl⟩
  have hi := blank_img (w1.drewN n) W H
  have B2 : Below w1.heap.size w1 (((w1.drewN n).alloc (.cells (boolC (List.replicate (W * H) false)) 4)).alloc (.cells #[.int .i64 W, .int .i64 H, .slice (some ⟨w1.heap.size, 0, none⟩) (W * H) (W * H)] 108)) := Ext.more (Ext.more (Ext.drawN (Ext.refl w1) n) _) _
  have GR := Lib.hid (grid_any (w1.heap.size + 1) W H _ 136 #[.pointer (some ⟨w.heap.size, 0, none⟩)] (fun x y => O (y * W + x)) _ hi.hdr hW hH enters_remade1 (fun x y hx hy wr hb => by
    have T3 := (T1.under B2 T1.lt).under hb (T1.under B2 T1.lt).lt
    have c3 := T3.cell 0
    simp at c3
    exact remade1f_any w.heap.size x y K q _ wr c3 hK (FH.out x y hx hy wr (Ext.then_ (Ext.then_ B1 B2) hb))))
  clear hi
  go_wp2_with fail
  refine GR.out.mono ?_
  rintro e w3 ⟨A2, c2, vs, rfl, hm, hb⟩
  have B3 := Ext.then_ (Ext.then_ B1 B2) hb
  have T3 := (T2.under B2 T2.lt).under hb (T2.under B2 T2.lt).lt
  have c0 := T3.cell 0
  have f0 := T3.free 0
  have cs := (T3.store 0 (.slice A2 H c2)).cell 0
  simp at c0 cs
  replace hm := hm.low (lo' := w.heap.size + 1 + 1) (Nat.le_trans (Nat.le_of_eq Z1.out.symm) B2.size) (Nat.le_refl _)
  have HM := Lib.hid hm
  clear hm GR hb B2
  go_wp2_with fail
  refine bodyPost_ret (v := .agg #[.slice A2 H c2]) (by simp [results, Try.results94, go_sem, cs]) rfl ⟨A2, c2, vs, rfl, ?_, ?_⟩
  · have hk := HM.out.keep ((Chg.refl (fun b => b < w.heap.size + 1 + 1) w3).store (p := ⟨w.heap.size + 1, 0, none⟩) (by show w.heap.size + 1 < w.heap.size + 1 + 1; omega) (.slice A2 H c2)) (fun b h1 h2 h3 => by omega)
    have hz : (w3.setCell ⟨w.heap.size + 1, 0, none⟩ (.slice A2 H c2)).heap.size = w3.heap.size := by simp [World.setCell]
    rw [hz]
    exact hk.low (by omega) (Nat.le_refl _)
  · exact B3.setCell (p := ⟨w.heap.size + 1, 0, none⟩) (by show w.heap.size ≤ w.heap.size + 1; omega) _
end Go.Proofs.Ytdbelajgndclfaa

namespace Go.Proofs.Ytdbelajgndclfaa
open Go.RowKit

/-- A call has returned a picture, a number and yes or no. -/
def SpRes (w : World) (rows : List ByteArray) (z : Int) (b : Bool) (e : Ending) (w' : World) : Prop :=
  ∃ A c, e = .returned (.tuple #[.agg #[.slice A rows.length c], .int .i64 z, .bool b]) ∧ w'.ownsRow w.heap.size 9 1 (.slice A rows.length c) rows.length (strs rows) ∧ Below w.heap.size w w'
/-- The pixels and what is lost. -/
def spdL (rows : List (List Int)) : List Bool := (List.range (tabW rows * rows.length)).map (spdB (tabW rows) rows.length (gF rows (tabW rows)))
def spdZ (rows : List (List Int)) : Int := (spdTo (tabW rows) rows.length (gF rows (tabW rows)) (tabW rows * rows.length)).2
theorem enters_at : Enters 95 := enters_of Try.func95 (by kernel_rfl) (by kernel_rfl)

theorem spd_start {w0 wA : World} {lo po : Nat} {A : Option Addr} {c : Nat} {vs : List Value} {W H : Nat} {G : Nat → Int} (z : wA.heap.size = po + 3) (hI : HeiInv w0 lo po A c vs W H G wA) (hlo : lo ≤ po)
    (hL : Blk wA (po + 1) 2 #[.int .i64 0]) (hF : Blk wA (po + 2) 116 #[.func (.func 96) #[] #[.pointer (some ⟨po, 0, none⟩), .pointer (some ⟨po + 1, 0, none⟩)]]) :
    SpdS w0 lo po A c vs W H (G, 0) (List.replicate (W * H) false) (((wA.alloc (.cells (boolC (List.replicate (W * H) false)) 4)).alloc (.cells #[.int .i64 W, .int .i64 H, .slice (some ⟨po + 3, 0, none⟩) (W * H) (W * H)] 108)).alloc (.cells #[.pointer (some ⟨po + 3 + 1, 0, none⟩)] 78)) := by
  have B : Below wA.heap.size wA (((wA.alloc (.cells (boolC (List.replicate (W * H) false)) 4)).alloc (.cells #[.int .i64 W, .int .i64 H, .slice (some ⟨po + 3, 0, none⟩) (W * H) (W * H)] 108)).alloc (.cells #[.pointer (some ⟨po + 3 + 1, 0, none⟩)] 78)) := Ext.more (Ext.more (Ext.more (Ext.refl _) _) _) _
  have hi := blank_img wA W H
  rw [z] at hi
  refine ⟨hI.step B hlo, hL.under B hL.lt, hF.under B hF.lt, hi.ext (Ext.more (Ext.refl _) _), ?_⟩
  have := Blk.made ((wA.alloc (.cells (boolC (List.replicate (W * H) false)) 4)).alloc (.cells #[.int .i64 W, .int .i64 H, .slice (some ⟨po + 3, 0, none⟩) (W * H) (W * H)] 108)) 78 #[.pointer (some ⟨po + 3 + 1, 0, none⟩)]
  simpa [z] using this

set_option maxRecDepth 100000 in
set_option maxHeartbeats 2000000 in
theorem spreadGrey_any (A : Option Addr) (c : Nat) (rows : List (List Int)) (w : World) (h : MatRd w A rows) (hn : rows.length ≤ 1000000000) (hr : ∀ i (h : i < rows.length), rows[i].length ≤ 1000000000) :
    Calls Try.prog 40 #[.agg #[.slice A rows.length c]] w (SpRes w (if greyOk rows then rowsTo (spdL rows) (tabW rows) rows.length else []) (if greyOk rows then spdZ rows else 0) (greyOk rows)) := by
  have B1 : Below w.heap.size w ((w.alloc (.cells #[.slice A rows.length c] 39)).alloc (.cells #[.slice none 0 0] 26)) := Ext.more (Ext.more (Ext.refl _) _) _
  have G1 : GreyAt ((w.alloc (.cells #[.slice A rows.length c] 39)).alloc (.cells #[.slice none 0 0] 26)) w.heap.size A c rows := (GreyAt.boxed h _).ext (Ext.more (Ext.refl _) _)
  have T1 : Blk ((w.alloc (.cells #[.slice A rows.length c] 39)).alloc (.cells #[.slice none 0 0] 26)) (w.heap.size + 1) 26 #[.slice none 0 0] := by
    have := Blk.made (w.alloc (.cells #[.slice A rows.length c] 39)) 26 #[.slice none 0 0]
    simpa using this
  have VG := Lib.hid (fun V (hV : MatRd V A rows) => validGrey_any A c rows V hV hn hr)
  have hmf : ∀ (fn : Fn) (first cap : Array Value) (w : World), (Instr.makeFunc fn first cap).run Try.prog w = .ok (.func fn first cap) w := fun _ _ _ _ => rfl
  have HG := Lib.hid G1
  cases hg : greyOk rows
  · rw [hg] at VG
    clear hg G1 h hr
    show Calls _ _ _ _ (SpRes w [] 0 false)
    go_enter Try.func40, Try.ntmps40
    go_wp2_with fail
    refine (VG.out _ HG.out.rd).mono ?_
    rintro e w1 ⟨rfl, hb⟩
    have T2 := T1.under hb T1.lt
    have f0 := T2.free 0
    have c0 := T2.cell 0
    have cs := (T2.store 0 (.slice none 0 0)).cell 0
    simp at c0 cs
    go_wp2_with fail
    refine bodyPost_ret (v := .tuple #[.agg #[.slice none 0 0], .int .i64 0, .bool false]) (by simp [results, Try.results40, go_sem, cs]) rfl ⟨none, 0, rfl, World.ownsRow_nil _ _ _ _, ?_⟩
    exact (Ext.then_ B1 hb).setCell (p := ⟨w.heap.size + 1, 0, none⟩) (by show w.heap.size ≤ w.heap.size + 1; omega) _
  · rw [hg] at VG
    obtain ⟨s1, s2, s3, s4⟩ := tab_sizes hg
    have hrow := tab_row hg
    have GB := Lib.hid (gF_bd hg rfl)
    have SZ := Lib.hid (fun V (hV : GreyAt V w.heap.size A c rows) => sizes_any w.heap.size A c rows V hV s1)
    have RM := Lib.hid (fun V (hV : GreyAt V w.heap.size A c rows) => remadeF_any w.heap.size A c rows 95 w.heap.size (gF rows (tabW rows)) (tabW rows) rows.length V hV rfl rfl s1 (by omega) (by omega) enters_at
      (fun x y hx hy wr hb => g_at (hV.ext hb) (fun y hy => hrow y hy) hx hy))
    clear hg G1 h hr hrow
    show Calls _ _ _ _ (SpRes w (rowsTo (spdL rows) (tabW rows) rows.length) (spdZ rows) true)
    have hlen : (rowsTo (spdL rows) (tabW rows) rows.length).length = rows.length := rowsTo_length _ _ _
    have E : Hid (spdL rows = (List.range (tabW rows * rows.length)).map (spdB (tabW rows) rows.length (gF rows (tabW rows)))) := rfl
    have E2 : Hid (spdZ rows = (spdTo (tabW rows) rows.length (gF rows (tabW rows)) (tabW rows * rows.length)).2) := rfl
    have HL := Lib.hid hlen
    clear hlen
    have hW : tabW rows ≤ 16 := by omega
    have hH : rows.length ≤ 16 := by omega
    generalize spdL rows = RL at *
    generalize spdZ rows = RZ at *
    generalize gF rows (tabW rows) = G at *
    generalize tabW rows = W at *
    generalize rows.length = H at *
    go_enter Try.func40, Try.ntmps40
    go_wp2_with fail
    refine (VG.out _ HG.out.rd).mono ?_
    rintro e w1 ⟨rfl, hb⟩
    have T2 := T1.under hb T1.lt
    have HG2 := Lib.hid (HG.out.ext hb)
    have B2 := Ext.then_ B1 hb
    clear hb HG T1 B1
    go_wp2_with fail
    refine (SZ.out _ HG2.out).mono ?_
    rintro e w2 ⟨rfl, k, rfl⟩
    have HG3 := Lib.hid (HG2.out.drewN k)
    have T3 : Blk (w1.drewN k) (w.heap.size + 1) 26 #[.slice none 0 0] := T2
    have B3 := Ext.drawN B2 k
    clear HG2 T2 B2 SZ VG
    generalize w1.drewN k = w2 at *
    go_wp2_with fail
    refine (RM.out _ HG3.out).mono ?_
    rintro e w3 ⟨A3, c3, vs, rfl, hm, hb3⟩
    have hz3 := B3.size
    have HM := Lib.hid hm
    have hz4 := hb3.size
    have t3l := T3.lt
    clear hm RM
    go_wp2_with fail
    obtain ⟨po, hpo⟩ : ∃ po, w3.heap.size = po := ⟨_, rfl⟩
    obtain ⟨lo, hlo⟩ : ∃ lo, w2.heap.size = lo := ⟨_, rfl⟩
    have I3 : HeiInv w2 w2.heap.size w3.heap.size A3 c3 vs W H G (((w3.alloc (.cells #[.slice A3 H c3] 39)).alloc (.cells #[.int .i64 0] 2)).alloc (.cells #[.func (.func 96) #[] #[.pointer (some ⟨w3.heap.size, 0, none⟩), .pointer (some ⟨w3.heap.size + 1, 0, none⟩)]] 116)) :=
      ⟨((Blk.made _ _ _).more _).more _, HM.out.ext (Ext.more (Ext.more (Ext.more (Ext.refl _) _) _) _), Ext.more (Ext.more (Ext.more hb3 _) _) _⟩
    have L3 : Blk (((w3.alloc (.cells #[.slice A3 H c3] 39)).alloc (.cells #[.int .i64 0] 2)).alloc (.cells #[.func (.func 96) #[] #[.pointer (some ⟨w3.heap.size, 0, none⟩), .pointer (some ⟨w3.heap.size + 1, 0, none⟩)]] 116)) (w3.heap.size + 1) 2 #[.int .i64 0] := by
      have := (Blk.made (w3.alloc (.cells #[.slice A3 H c3] 39)) 2 #[.int .i64 0]).more (.cells #[.func (.func 96) #[] #[.pointer (some ⟨w3.heap.size, 0, none⟩), .pointer (some ⟨w3.heap.size + 1, 0, none⟩)]] 116)
      simpa using this
    have F3 : Blk (((w3.alloc (.cells #[.slice A3 H c3] 39)).alloc (.cells #[.int .i64 0] 2)).alloc (.cells #[.func (.func 96) #[] #[.pointer (some ⟨w3.heap.size, 0, none⟩), .pointer (some ⟨w3.heap.size + 1, 0, none⟩)]] 116)) (w3.heap.size + 2) 116 #[.func (.func 96) #[] #[.pointer (some ⟨w3.heap.size, 0, none⟩), .pointer (some ⟨w3.heap.size + 1, 0, none⟩)]] := by
      have := Blk.made ((w3.alloc (.cells #[.slice A3 H c3] 39)).alloc (.cells #[.int .i64 0] 2)) 116 #[.func (.func 96) #[] #[.pointer (some ⟨w3.heap.size, 0, none⟩), .pointer (some ⟨w3.heap.size + 1, 0, none⟩)]]
      simpa using this
    have zA : (((w3.alloc (.cells #[.slice A3 H c3] 39)).alloc (.cells #[.int .i64 0] 2)).alloc (.cells #[.func (.func 96) #[] #[.pointer (some ⟨w3.heap.size, 0, none⟩), .pointer (some ⟨w3.heap.size + 1, 0, none⟩)]] 116)).heap.size = w3.heap.size + 3 := by simp
    generalize ((w3.alloc (.cells #[.slice A3 H c3] 39)).alloc (.cells #[.int .i64 0] 2)).alloc (.cells #[.func (.func 96) #[] #[.pointer (some ⟨w3.heap.size, 0, none⟩), .pointer (some ⟨w3.heap.size + 1, 0, none⟩)]] 116) = wA at *
    rw [hpo] at I3 L3 F3 zA hz4
    rw [hlo] at I3 hz4 hz3 t3l
    simp only [hpo]
    have T5 := Lib.hid (fun V (hV : Below lo w2 V) => T3.under hV t3l)
    have B5 := Lib.hid (fun V (hV : Below lo w2 V) => B3.trans (hV.mono hz3))
    have SP := Lib.hid (spd_start zA I3 hz4 L3 F3)
    have ZA := Lib.hid zA
    clear I3 L3 F3 zA HM hb3 T3 B3
    refine (blank_any W H _ (by omega) (by omega)).mono ?_
    rintro e w' ⟨rfl, rfl⟩
    simp only [ZA.out]
    go_wp2_with fail
    simp only [ZA.out, show po + 3 + 1 = po + 4 from rfl, show po + 4 + 1 = po + 5 from rfl, show po + 1 + 1 = po + 2 from rfl] at SP ⊢
    generalize ((wA.alloc (.cells (boolC (List.replicate (W * H) false)) 4)).alloc (.cells #[.int .i64 W, .int .i64 H, .slice (some ⟨po + 3, 0, none⟩) (W * H) (W * H)] 108)).alloc (.cells #[.pointer (some ⟨po + 4, 0, none⟩)] 78) = wC at *
    have EI := Lib.hid (each_any (po + 4) W H (.slice (some ⟨po + 3, 0, none⟩) (W * H) (W * H)) 100 #[.pointer (some ⟨po, 0, none⟩), .pointer (some ⟨po + 5, 0, none⟩), .pointer (some ⟨po + 2, 0, none⟩)]
      (fun k wr => SpdS w2 lo po A3 c3 vs W H (spdTo W H G k) (bitsTo (spdB W H G) k (W * H)) wr) wC (by omega) (by omega) (fun k wr h => h.img.hdr)
      (fun x y hx hy wr h => eachS_any w2 lo po A3 c3 vs W H G x y wr hz4 hW hH hx hy GB.out h) (by rw [bitsTo_zero]; exact SP.out) enters_eachS)
    clear SP
    refine EI.out.mono ?_
    rintro e w' ⟨rfl, hS⟩
    rw [bitsTo_all, ← E.out] at hS
    have HS := Lib.hid hS
    have km := hS.mp.cell 0
    have kl := hS.lost.cell 0
    simp at km kl
    rw [← E2.out] at kl
    have TL := Lib.hid (fun V (hV : Below w'.heap.size w' V) => (show Calls Try.prog 87 #[.pointer (some ⟨po + 4, 0, none⟩)] V fun e w'' => ∃ A c, e = .returned (.agg #[.slice A H c]) ∧ w''.ownsRow w'.heap.size 9 1 (.slice A H c) H (strs (rowsTo RL W H)) ∧ Below w'.heap.size w' w'' from
      (told_any _ _ _ _ _ _ (hS.img.ext hV) (by omega) (by omega)).mono fun e w'' ⟨A, c, h1, h2, h3⟩ => ⟨A, c, h1, own_base h2 hV.size, Ext.then_ hV h3⟩))
    have t6 := T5.out _ hS.hei.ext
    have B6 := B5.out _ hS.hei.ext
    have ml := hS.mp.lt
    have ll := hS.lost.lt
    clear hS EI T5 B5 E E2
    have t6l := t6.lt
    go_wp2_with fail
    go_region_law (first
      | (go_simp; go_at_call 87; refine (TL.out _ (by repeat (first | assumption | exact Ext.refl _ | refine Ext.draw ?_ | refine Ext.drawN ?_ _))).mono ?_; rintro e w5 ⟨A5, c5, rfl, own5, hb5⟩; have kl5 := (hb5.cell (p := ⟨po + 1, 0, none⟩) ll).trans kl; have t7 := t6.under hb5 t6l; have f0 := t7.free 0; have c0 := t7.cell 0; have cs := (t7.store 0 (.slice A5 H c5)).cell 0; simp at c0 cs))
    all_goals
      go_wp2_with fail
      refine bodyPost_ret (v := .tuple #[.agg #[.slice A5 H c5], .int .i64 RZ, .bool true]) (by simp [results, Try.results40, go_sem, cs]) rfl ⟨A5, c5, by rw [HL.out], ?_, ?_⟩
      · rw [HL.out]
        exact own_base (ownsRow_setCell_below own5 (a := ⟨w.heap.size + 1, 0, none⟩) (by show w.heap.size + 1 < w'.heap.size; omega) _) (by omega)
      · exact (Ext.then_ B6 hb5).setCell (p := ⟨w.heap.size + 1, 0, none⟩) (by show w.heap.size ≤ w.heap.size + 1; omega) _
end Go.Proofs.Ytdbelajgndclfaa
