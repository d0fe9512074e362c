/- How many black pixels are around a pixel; spots of which some are struck; the ends of a picture. slices.IndexFunc and slices.DeleteFunc at spots, at whatever function value that makes memory of its own alone. The ends of a picture. -/
import Derived.Test.YtdhajndmebnknaaGreatAr8
import Derived.Test.YtdhajndmebnknaaGreatSpt
import Derived.Test.YtdhajndmebnknaaGreatGIm
import Derived.Test.YtdhajndmebnknaaGreatImgOf
import Derived.Deep.RegionLaw
import Derived.Lib.SliceRun
import Derived.Test.YtdhajndmebnknaaGreatArd
namespace Go.Proofs.YtdhajndmebnknaaGreat
open Go.RowKit

/-- How many black pixels are around a pixel. -/
def coN (L : List Bool) (W H : Nat) (z : Int × Int) : Nat := (nb8 z).countP fun q => bit L W H q.1 q.2
theorem oneIfC_any (b : Bool) (w : World) : Calls Tryz.prog 69 #[.bool b] w fun e w' => e = .returned (.int .i64 (if b then 1 else 0)) ∧ w = w' := by
  cases b
  · go_enter Tryz.func69, Tryz.ntmps69
    go_wp2_with fail
    go_ret
    exact ⟨rfl, rfl⟩
  · go_enter Tryz.func69, Tryz.ntmps69
    go_wp2_with fail
    go_ret
    exact ⟨rfl, rfl⟩
theorem co_step (L : List Bool) (W H : Nat) (l : List (Int × Int)) (k : Nat) (hk : k < l.length) :
    ((l.take (k + 1)).countP fun q => bit L W H q.1 q.2) = ((l.take k).countP fun q => bit L W H q.1 q.2) + if bit L W H l[k].1 l[k].2 then 1 else 0 := by
  rw [List.take_succ_eq_append_getElem hk, List.countP_append, List.countP_singleton]
set_option maxRecDepth 100000 in
set_option maxHeartbeats 2000000 in
theorem company_any (p g W H : Nat) (L : List Bool) (x y : Int) (w : World) (h : Img w p g W H L) (hW : W ≤ 1000) (hH : H ≤ 1000) (hx : -900 ≤ x ∧ x ≤ 900) (hy : -900 ≤ y ∧ y ≤ 900) :
    Calls Tryz.prog 55 #[.pointer (some ⟨p, 0, none⟩), .agg #[.int .i64 x, .int .i64 y]] w fun e w' => e = .returned (.int .i64 (coN L W H (x, y) : Nat)) ∧ Below w.heap.size w w' := by
  have k0 : (w.alloc (.cells #[.int .i64 x, .int .i64 y] 38)).cell? ⟨w.heap.size, 0, none⟩ = some (.int .i64 x) := cell_new w _ _ 0
  have k1 : (w.alloc (.cells #[.int .i64 x, .int .i64 y] 38)).cell? ⟨w.heap.size, 1, none⟩ = some (.int .i64 y) := cell_new w _ _ 1
  have B0 : Below w.heap.size w (w.alloc (.cells #[.int .i64 x, .int .i64 y] 38)) := Ext.more (Ext.refl _) _
  have AR := Lib.hid (around8_any x y (w.alloc (.cells #[.int .i64 x, .int .i64 y] 38)) (by omega) (by omega))
  have IM := Lib.hid (fun V (hb : Below w.heap.size w V) => h.ext hb)
  have GK := Lib.hid (fun V (hI : Img V p g W H L) x y => get_any p g W H L x y V hI hW hH)
  have CO : Hid (coN L W H (x, y) = ((ar8 x y).take 8).countP fun q => bit L W H q.1 q.2) := rfl
  have ST := Lib.hid (co_step L W H (ar8 x y))
  have hl8 : (ar8 x y).length = 8 := rfl
  have LE : Hid (∀ k, ((ar8 x y).take k).countP (fun q => bit L W H q.1 q.2) ≤ 8) := fun k => Nat.le_trans List.countP_le_length (by rw [List.length_take, hl8]; omega)
  have HL := Lib.hid hl8
  have NC := Lib.hid (co_step L W H (ar8 x y))
  rw [CO.out]
  clear h CO hl8 NC
  generalize ar8 x y = ar at *
  go_enter Tryz.func55, Tryz.ntmps55
  go_wp2_with fail
  refine AR.out.mono ?_
  rintro e w1 ⟨ga, ca, rfl, hrow, hb1⟩
  have B1 := Ext.then_ B0 hb1
  have S1 := own_spots (L := ar) hrow HL.out
  clear hrow AR k0 k1 B0
  go_wp2_with fail
  go_loopw [5, 14] (fun m i wr => ∃ k : Nat, k ≤ 8 ∧ i = .int .i64 k ∧ m = .int .i64 ((ar.take k).countP fun q => bit L W H q.1 q.2 : Nat) ∧ Below w.heap.size w wr ∧ Below w1.heap.size w1 wr) (fun _ i _ => 8 - (intOf i).toNat)
  case atStart => exact ⟨0, Nat.zero_le _, rfl, by simp, B1, Ext.refl _⟩
  case round =>
    obtain ⟨k, hk, rfl, rfl, hb, hb'⟩ := hrel
    by_cases hlt : k < 8
    · have hkl : k < ar.length := by rw [HL.out]; exact hlt
      have hS := S1.ext hb'
      obtain ⟨c0, c1⟩ := hS.2 k hkl
      have hga := hS.1
      have SK := Lib.hid (ST.out k hkl)
      have lk := LE.out k
      have i0 : (0 : Int) ≤ (k : Int) := by omega
      have i1 : (k : Int) < 8 := by omega
      generalize ar[k] = q at *
      obtain ⟨qx, qy⟩ := q
      simp only at c0 c1 SK
      have hI := IM.out wr hb
      have G := Lib.hid (GK.out (wr.alloc (.cells #[.int .i64 qx, .int .i64 qy] 38)) (hI.ext (Ext.more (Ext.refl _) _)) qx qy)
      have BW := Lib.hid (Ext.more hb (.cells #[.int .i64 qx, .int .i64 qy] 38))
      have BW' := Lib.hid (Ext.more hb' (.cells #[.int .i64 qx, .int .i64 qy] 38))
      generalize bit L W H qx qy = bq at *
      generalize (ar.take k).countP (fun q => bit L W H q.1 q.2) = m at *
      have mk : IntKind.i64.wrap ((m : Int) + (if bq then 1 else 0)) = (m : Int) + (if bq then 1 else 0) := IntWalk.i64_in _ (by split <;> omega)
      clear hI hS
      go_wp2_with (first | (go_at_call 32; refine G.out.mono ?_; rintro e w' ⟨rfl, nd, rfl⟩) | (go_at_call 69; refine (oneIfC_any _ _).mono ?_; rintro e w' ⟨rfl, rfl⟩))
      go_roundw
      case rel => exact ⟨k + 1, by omega, by go_num, by rw [SK.out]; cases bq <;> simp, Ext.drawN BW.out nd, Ext.drawN BW'.out nd⟩
      case measure => simp [intOf]; omega
    · obtain rfl : k = 8 := by omega
      have R := Lib.hid hb
      go_wp2_with fail
      go_ret
      exact ⟨rfl, R.out⟩
end Go.Proofs.YtdhajndmebnknaaGreat

namespace Go.Proofs.YtdhajndmebnknaaGreat
open Go.RowKit

def gq (L : List (Int × Int)) (j : Nat) : Int × Int := L.getD j (0, 0)
def sqA (p : Int × Int) : Value := .agg #[.int .i64 p.1, .int .i64 p.2]
theorem gq_at {L : List (Int × Int)} {k : Nat} (h : k < L.length) : L[k] = gq L k := by rw [gq, List.getD_eq_getElem?_getD, List.getElem?_eq_getElem h]; rfl
theorem ownD_setCells {base : Nat} {e : TypeId} {size g n cap : Nat} : ∀ (vs : List Value) (o : Nat) (w : World) (xs : List Value), o + vs.length ≤ xs.length → w.ownsRow base e size (.slice (some ⟨g, 0, none⟩) n cap) n xs →
    (w.setCells g o vs).ownsRow base e size (.slice (some ⟨g, 0, none⟩) n cap) n (xs.take o ++ vs ++ xs.drop (o + vs.length))
  | [], o, w, xs, _, h => by
    have e : xs.take o ++ [] ++ xs.drop (o + 0) = xs := by simp
    rw [World.setCells]
    show w.ownsRow base _ size _ n (xs.take o ++ [] ++ xs.drop (o + 0))
    rw [e]; exact h
  | v :: vs, o, w, xs, hl, h => by
    rw [World.setCells]
    have hl2 : o + (vs.length + 1) ≤ xs.length := by simpa using hl
    have := ownD_setCells vs (o + 1) (w.setCell ⟨g, o, none⟩ v) (xs.set o v) (by rw [List.length_set]; omega) (h.stored o v).1
    have e : (xs.set o v).take (o + 1) ++ vs ++ (xs.set o v).drop (o + 1 + vs.length) = xs.take o ++ v :: vs ++ xs.drop (o + (v :: vs).length) := by
      have h1 : (xs.set o v).take (o + 1) = xs.take o ++ [v] := by
        rw [List.take_add_one, List.take_set_of_le (Nat.le_refl _), List.getElem?_set_self (by omega)]; rfl
      rw [h1, List.drop_set_of_lt (by omega), List.length_cons, show o + 1 + vs.length = o + (vs.length + 1) by omega]
      simp
    rw [e] at this
    exact this
theorem ownD_shrink {w : World} {base : Nat} {e : TypeId} {size g n m cap : Nat} {xs : List Value} (h : w.ownsRow base e size (.slice (some ⟨g, 0, none⟩) n cap) n xs) (hm : m ≤ n) : w.ownsRow base e size (.slice (some ⟨g, 0, none⟩) m cap) m (xs.take (m * size)) := by
  have hms : m * size ≤ n * size := Nat.mul_le_mul_right _ hm
  refine ⟨by rw [List.length_take, h.1]; omega, ?_⟩
  rcases h.2 with ⟨h', _⟩ | ⟨g', cap', cur, h', hb, hg, hnc, hcm, hcs, htake⟩
  · simp at h'
  · simp only [Value.slice.injEq, Option.some.injEq, Addr.mk.injEq, and_true, true_and] at h'
    obtain ⟨rfl, rfl⟩ := h'
    exact .inr ⟨g, cap, cur, rfl, hb, hg, by omega, hcm, hcs, by rw [← htake, List.take_take, Nat.min_eq_left hms]⟩
theorem ownD_cap {w : World} {base : Nat} {e : TypeId} {size g n cap : Nat} {xs : List Value} (h : w.ownsRow base e size (.slice (some ⟨g, 0, none⟩) n cap) n xs) : n ≤ cap ∧ base ≤ g ∧ g < w.heap.size := by
  rcases h.2 with ⟨h', _⟩ | ⟨g', cap', cur, h', hb, hg, hnc, _⟩
  · simp at h'
  · simp only [Value.slice.injEq, Option.some.injEq, Addr.mk.injEq, and_true, true_and] at h'
    obtain ⟨rfl, rfl⟩ := h'
    exact ⟨hnc, hb, Blk.lt hg⟩
set_option maxRecDepth 100000 in
set_option maxHeartbeats 400000 in
theorem indexFuncD_any (g c n : Nat) (K : FuncId) (caps : Array Value) (L : List (Int × Int)) (f : Int × Int → Bool) (w : World) (hA : SpAt w g L) (hl : L.length = n) (hn : n ≤ 1000000000) (hK : Enters K)
    (hF : ∀ p ∈ L, ∀ wr, Below w.heap.size w wr → Calls Tryz.prog K (#[sqA p] ++ caps) wr fun e w' => e = .returned (.bool (f p)) ∧ Below wr.heap.size wr w') :
    Calls Tryz.prog 72 #[.slice (some ⟨g, 0, none⟩) n c, .func (.func K) #[] caps] w fun e w' => (∃ r : Int, e = .returned (.int .i64 r) ∧ IdxF (fun i => f (gq L i)) n r) ∧ Below w.heap.size w w' := by
  have FH := Lib.hid hF
  have AH := Lib.hid (fun V (hb : Below w.heap.size w V) => hA.ext hb)
  have HL := Lib.hid hl
  clear hF hl hA
  unfold Enters at hK
  go_enter Tryz.func72, Tryz.ntmps72
  go_wp2_with fail
  go_loopw [8] (fun i wr => ∃ k : Nat, k ≤ n ∧ i = .int .i64 k ∧ Hid (∀ j, j < k → f (gq L j) = false) ∧ Below w.heap.size w wr) (fun i _ => n - (intOf i).toNat)
  case atStart => exact ⟨0, Nat.zero_le _, rfl, fun j h => absurd h (Nat.not_lt_zero _), Ext.refl _⟩
  case round =>
    obtain ⟨k, hk, rfl, hno, hb⟩ := hrel
    by_cases hlt : k < n
    · have hkv : k < L.length := by rw [HL.out]; exact hlt
      have hS := AH.out wr hb
      obtain ⟨c1, c2⟩ := hS.2 k hkv
      have hg := hS.1
      have C := FH.out L[k] (List.getElem_mem _) wr hb
      rw [gq_at hkv] at c1 c2 C
      have i0 : (0 : Int) ≤ (k : Int) := by omega
      have i1 : (k : Int) < (n : Int) := by omega
      obtain ⟨bk, hbk⟩ : ∃ x, f (gq L k) = x := ⟨_, rfl⟩
      have HB := Lib.hid hbk
      rw [hbk] at C
      clear hbk
      generalize gq L k = p at C c1 c2
      obtain ⟨px, py⟩ := p
      unfold sqA at C
      simp only at c1 c2 C
      have C := Lib.hid C
      clear hS
      cases bk
      · go_wp2_with fail
        refine (C.out).mono ?_
        rintro e w2 ⟨rfl, hb2⟩
        go_wp2_with fail
        go_roundw
        case rel => exact ⟨k + 1, by omega, by go_num, fun j hj => (by rcases Nat.lt_succ_iff_lt_or_eq.1 hj with h | h; exact hno j h; rw [h]; exact HB.out), Ext.then_ hb hb2⟩
        case measure => simp [intOf]; omega
      · go_wp2_with fail
        refine (C.out).mono ?_
        rintro e w2 ⟨rfl, hb2⟩
        have R : Hid (IdxF (fun i => f (gq L i)) n k) := .inl ⟨k, rfl, hlt, HB.out, hno⟩
        clear hno
        go_wp2_with fail
        go_ret
        exact ⟨⟨_, rfl, R.out⟩, Ext.then_ hb hb2⟩
    · obtain rfl : k = n := by omega
      have R : Hid (IdxF (fun i => f (gq L i)) k (-1)) := .inr ⟨rfl, hno⟩
      clear hno
      go_wp2_with fail
      go_ret
      exact ⟨⟨_, rfl, R.out⟩, hb⟩
end Go.Proofs.YtdhajndmebnknaaGreat

namespace Go.Proofs.YtdhajndmebnknaaGreat
open Go.RowKit

end Go.Proofs.YtdhajndmebnknaaGreat
