/- How many black pixels are around a pixel; spots of which some are struck; the ends of a picture. slices.IndexFunc and slices.DeleteFunc at spots, at whatever function value that makes memory of its own alone. The ends of a picture. -/
import Derived.Test.YtdhajndmebnknaaAr8
import Derived.Test.YtdhajndmebnknaaSpt
import Derived.Test.YtdhajndmebnknaaGIm
import Derived.Test.YtdhajndmebnknaaImgOf
import Derived.Deep.RegionLaw
import Derived.Lib.SliceRun
import Derived.Test.YtdhajndmebnknaaArd
namespace Go.Proofs.Ytdhajndmebnknaa
open Go.RowKit

/-- How many black pixels are around a pixel. -/
def coN (L : List Bool) (W H : Nat) (z : Int × Int) : Nat := (nb8 z).countP fun q => bit L W H q.1 q.2
theorem oneIfC_any (b : Bool) (w : World) : Calls Try.prog 76 #[.bool b] w fun e w' => e = .returned (.int .i64 (if b then 1 else 0)) ∧ w = w' := by
  cases b
  · go_enter Try.func76, Try.ntmps76
    go_wp2_with fail
    go_ret
    exact ⟨rfl, rfl⟩
  · go_enter Try.func76, Try.ntmps76
    go_wp2_with fail
    go_ret
    exact ⟨rfl, rfl⟩
theorem co_step (L : List Bool) (W H : Nat) (l : List (Int × Int)) (k : Nat) (hk : k < l.length) :
    ((l.take (k + 1)).countP fun q => bit L W H q.1 q.2) = ((l.take k).countP fun q => bit L W H q.1 q.2) + if bit L W H l[k].1 l[k].2 then 1 else 0 := by
  rw [List.take_succ_eq_append_getElem hk, List.countP_append, List.countP_singleton]
set_option maxRecDepth 100000 in
set_option maxHeartbeats 2000000 in
theorem company_any (p g W H : Nat) (L : List Bool) (x y : Int) (w : World) (h : Img w p g W H L) (hW : W ≤ 1000) (hH : H ≤ 1000) (hx : -900 ≤ x ∧ x ≤ 900) (hy : -900 ≤ y ∧ y ≤ 900) :
    Calls Try.prog 43 #[.pointer (some ⟨p, 0, none⟩), .agg #[.int .i64 x, .int .i64 y]] w fun e w' => e = .returned (.int .i64 (coN L W H (x, y) : Nat)) ∧ Below w.heap.size w w' := by
  have k0 : (w.alloc (.cells #[.int .i64 x, .int .i64 y] 50)).cell? ⟨w.heap.size, 0, none⟩ = some (.int .i64 x) := cell_new w _ _ 0
  have k1 : (w.alloc (.cells #[.int .i64 x, .int .i64 y] 50)).cell? ⟨w.heap.size, 1, none⟩ = some (.int .i64 y) := cell_new w _ _ 1
  have B0 : Below w.heap.size w (w.alloc (.cells #[.int .i64 x, .int .i64 y] 50)) := Ext.more (Ext.refl _) _
  have AR := Lib.hid (around8_any x y (w.alloc (.cells #[.int .i64 x, .int .i64 y] 50)) (by omega) (by omega))
  have IM := Lib.hid (fun V (hb : Below w.heap.size w V) => h.ext hb)
  have GK := Lib.hid (fun V (hI : Img V p g W H L) x y => get_any p g W H L x y V hI hW hH)
  have CO : Hid (coN L W H (x, y) = ((ar8 x y).take 8).countP fun q => bit L W H q.1 q.2) := rfl
  have ST := Lib.hid (co_step L W H (ar8 x y))
  have hl8 : (ar8 x y).length = 8 := rfl
  have LE : Hid (∀ k, ((ar8 x y).take k).countP (fun q => bit L W H q.1 q.2) ≤ 8) := fun k => Nat.le_trans List.countP_le_length (by rw [List.length_take, hl8]; omega)
  have HL := Lib.hid hl8
  have NC := Lib.hid (co_step L W H (ar8 x y))
  rw [CO.out]
  clear h CO hl8 NC
  generalize ar8 x y = ar at *
  go_enter Try.func43, Try.ntmps43
  go_wp2_with fail
  refine AR.out.mono ?_
  rintro e w1 ⟨ga, ca, rfl, hrow, hb1⟩
  have B1 := Ext.then_ B0 hb1
  have S1 := own_spots (L := ar) hrow HL.out
  clear hrow AR k0 k1 B0
  go_wp2_with fail
  go_loopw [5, 14] (fun m i wr => ∃ k : Nat, k ≤ 8 ∧ i = .int .i64 k ∧ m = .int .i64 ((ar.take k).countP fun q => bit L W H q.1 q.2 : Nat) ∧ Below w.heap.size w wr ∧ Below w1.heap.size w1 wr) (fun _ i _ => 8 - (intOf i).toNat)
  case atStart => exact ⟨0, Nat.zero_le _, rfl, by simp, B1, Ext.refl _⟩
  case round =>
    obtain ⟨k, hk, rfl, rfl, hb, hb'⟩ := hrel
    by_cases hlt : k < 8
    · have hkl : k < ar.length := by rw [HL.out]; exact hlt
      have hS := S1.ext hb'
      obtain ⟨c0, c1⟩ := hS.2 k hkl
      have hga := hS.1
      have SK := Lib.hid (ST.out k hkl)
      have lk := LE.out k
      have i0 : (0 : Int) ≤ (k : Int) := by omega
      have i1 : (k : Int) < 8 := by omega
      generalize ar[k] = q at *
      obtain ⟨qx, qy⟩ := q
      simp only at c0 c1 SK
      have hI := IM.out wr hb
      have G := Lib.hid (GK.out (wr.alloc (.cells #[.int .i64 qx, .int .i64 qy] 50)) (hI.ext (Ext.more (Ext.refl _) _)) qx qy)
      have BW := Lib.hid (Ext.more hb (.cells #[.int .i64 qx, .int .i64 qy] 50))
      have BW' := Lib.hid (Ext.more hb' (.cells #[.int .i64 qx, .int .i64 qy] 50))
      generalize bit L W H qx qy = bq at *
      generalize (ar.take k).countP (fun q => bit L W H q.1 q.2) = m at *
      have mk : IntKind.i64.wrap ((m : Int) + (if bq then 1 else 0)) = (m : Int) + (if bq then 1 else 0) := IntWalk.i64_in _ (by split <;> omega)
      clear hI hS
      go_wp2_with (first | (go_at_call 57; refine G.out.mono ?_; rintro e w' ⟨rfl, nd, rfl⟩) | (go_at_call 76; refine (oneIfC_any _ _).mono ?_; rintro e w' ⟨rfl, rfl⟩))
      go_roundw
      case rel => exact ⟨k + 1, by omega, by go_num, by rw [SK.out]; cases bq <;> simp, Ext.drawN BW.out nd, Ext.drawN BW'.out nd⟩
      case measure => simp [intOf]; omega
    · obtain rfl : k = 8 := by omega
      have R := Lib.hid hb
      go_wp2_with fail
      go_ret
      exact ⟨rfl, R.out⟩
end Go.Proofs.Ytdhajndmebnknaa

namespace Go.Proofs.Ytdhajndmebnknaa
open Go.RowKit

def gq (L : List (Int × Int)) (j : Nat) : Int × Int := L.getD j (0, 0)
def sqA (p : Int × Int) : Value := .agg #[.int .i64 p.1, .int .i64 p.2]
theorem gq_at {L : List (Int × Int)} {k : Nat} (h : k < L.length) : L[k] = gq L k := by rw [gq, List.getD_eq_getElem?_getD, List.getElem?_eq_getElem h]; rfl
theorem ownD_setCells {base : Nat} {e : TypeId} {size g n cap : Nat} : ∀ (vs : List Value) (o : Nat) (w : World) (xs : List Value), o + vs.length ≤ xs.length → w.ownsRow base e size (.slice (some ⟨g, 0, none⟩) n cap) n xs →
    (w.setCells g o vs).ownsRow base e size (.slice (some ⟨g, 0, none⟩) n cap) n (xs.take o ++ vs ++ xs.drop (o + vs.length))
  | [], o, w, xs, _, h => by
    have e : xs.take o ++ [] ++ xs.drop (o + 0) = xs := by simp
    rw [World.setCells]
    show w.ownsRow base _ size _ n (xs.take o ++ [] ++ xs.drop (o + 0))
    rw [e]; exact h
  | v :: vs, o, w, xs, hl, h => by
    rw [World.setCells]
    have hl2 : o + (vs.length + 1) ≤ xs.length := by simpa using hl
    have := ownD_setCells vs (o + 1) (w.setCell ⟨g, o, none⟩ v) (xs.set o v) (by rw [List.length_set]; omega) (h.stored o v).1
    have e : (xs.set o v).take (o + 1) ++ vs ++ (xs.set o v).drop (o + 1 + vs.length) = xs.take o ++ v :: vs ++ xs.drop (o + (v :: vs).length) := by
      have h1 : (xs.set o v).take (o + 1) = xs.take o ++ [v] := by
        rw [List.take_add_one, List.take_set_of_le (Nat.le_refl _), List.getElem?_set_self (by omega)]; rfl
      rw [h1, List.drop_set_of_lt (by omega), List.length_cons, show o + 1 + vs.length = o + (vs.length + 1) by omega]
      simp
    rw [e] at this
    exact this
theorem ownD_shrink {w : World} {base : Nat} {e : TypeId} {size g n m cap : Nat} {xs : List Value} (h : w.ownsRow base e size (.slice (some ⟨g, 0, none⟩) n cap) n xs) (hm : m ≤ n) : w.ownsRow base e size (.slice (some ⟨g, 0, none⟩) m cap) m (xs.take (m * size)) := by
  have hms : m * size ≤ n * size := Nat.mul_le_mul_right _ hm
  refine ⟨by rw [List.length_take, h.1]; omega, ?_⟩
  rcases h.2 with ⟨h', _⟩ | ⟨g', cap', cur, h', hb, hg, hnc, hcm, hcs, htake⟩
  · simp at h'
  · simp only [Value.slice.injEq, Option.some.injEq, Addr.mk.injEq, and_true, true_and] at h'
    obtain ⟨rfl, rfl⟩ := h'
    exact .inr ⟨g, cap, cur, rfl, hb, hg, by omega, hcm, hcs, by rw [← htake, List.take_take, Nat.min_eq_left hms]⟩
theorem ownD_cap {w : World} {base : Nat} {e : TypeId} {size g n cap : Nat} {xs : List Value} (h : w.ownsRow base e size (.slice (some ⟨g, 0, none⟩) n cap) n xs) : n ≤ cap ∧ base ≤ g ∧ g < w.heap.size := by
  rcases h.2 with ⟨h', _⟩ | ⟨g', cap', cur, h', hb, hg, hnc, _⟩
  · simp at h'
  · simp only [Value.slice.injEq, Option.some.injEq, Addr.mk.injEq, and_true, true_and] at h'
    obtain ⟨rfl, rfl⟩ := h'
    exact ⟨hnc, hb, Blk.lt hg⟩
set_option maxRecDepth 100000 in
set_option maxHeartbeats 400000 in
theorem indexFuncD_any (g c n : Nat) (K : FuncId) (caps : Array Value) (L : List (Int × Int)) (f : Int × Int → Bool) (w : World) (hA : SpAt w g L) (hl : L.length = n) (hn : n ≤ 1000000000) (hK : Enters K)
    (hF : ∀ p ∈ L, ∀ wr, Below w.heap.size w wr → Calls Try.prog K (#[sqA p] ++ caps) wr fun e w' => e = .returned (.bool (f p)) ∧ Below wr.heap.size wr w') :
    Calls Try.prog 72 #[.slice (some ⟨g, 0, none⟩) n c, .func (.func K) #[] caps] w fun e w' => (∃ r : Int, e = .returned (.int .i64 r) ∧ IdxF (fun i => f (gq L i)) n r) ∧ Below w.heap.size w w' := by
  have FH := Lib.hid hF
  have AH := Lib.hid (fun V (hb : Below w.heap.size w V) => hA.ext hb)
  have HL := Lib.hid hl
  clear hF hl hA
  unfold Enters at hK
  go_enter Try.func72, Try.ntmps72
  go_wp2_with fail
  go_loopw [8] (fun i wr => ∃ k : Nat, k ≤ n ∧ i = .int .i64 k ∧ Hid (∀ j, j < k → f (gq L j) = false) ∧ Below w.heap.size w wr) (fun i _ => n - (intOf i).toNat)
  case atStart => exact ⟨0, Nat.zero_le _, rfl, fun j h => absurd h (Nat.not_lt_zero _), Ext.refl _⟩
  case round =>
    obtain ⟨k, hk, rfl, hno, hb⟩ := hrel
    by_cases hlt : k < n
    · have hkv : k < L.length := by rw [HL.out]; exact hlt
      have hS := AH.out wr hb
      obtain ⟨c1, c2⟩ := hS.2 k hkv
      have hg := hS.1
      have C := FH.out L[k] (List.getElem_mem _) wr hb
      rw [gq_at hkv] at c1 c2 C
      have i0 : (0 : Int) ≤ (k : Int) := by omega
      have i1 : (k : Int) < (n : Int) := by omega
      obtain ⟨bk, hbk⟩ : ∃ x, f (gq L k) = x := ⟨_, rfl⟩
      have HB := Lib.hid hbk
      rw [hbk] at C
      clear hbk
      generalize gq L k = p at C c1 c2
      obtain ⟨px, py⟩ := p
      unfold sqA at C
      simp only at c1 c2 C
      have C := Lib.hid C
      clear hS
      cases bk
      · go_wp2_with fail
        refine (C.out).mono ?_
        rintro e w2 ⟨rfl, hb2⟩
        go_wp2_with fail
        go_roundw
        case rel => exact ⟨k + 1, by omega, by go_num, fun j hj => (by rcases Nat.lt_succ_iff_lt_or_eq.1 hj with h | h; exact hno j h; rw [h]; exact HB.out), Ext.then_ hb hb2⟩
        case measure => simp [intOf]; omega
      · go_wp2_with fail
        refine (C.out).mono ?_
        rintro e w2 ⟨rfl, hb2⟩
        have R : Hid (IdxF (fun i => f (gq L i)) n k) := .inl ⟨k, rfl, hlt, HB.out, hno⟩
        clear hno
        go_wp2_with fail
        go_ret
        exact ⟨⟨_, rfl, R.out⟩, Ext.then_ hb hb2⟩
    · obtain rfl : k = n := by omega
      have R : Hid (IdxF (fun i => f (gq L i)) k (-1)) := .inr ⟨rfl, hno⟩
      clear hno
      go_wp2_with fail
      go_ret
      exact ⟨⟨_, rfl, R.out⟩, hb⟩
/-- The list in the midst of a deletion. -/
def DelM (f : Int × Int → Bool) (L : List (Int × Int)) (j : Nat) (M : List (Int × Int)) : Prop :=
  ∃ mid, M = (L.take j).filter (fun p => !f p) ++ (mid ++ L.drop j) ∧ ((L.take j).filter (fun p => !f p)).length + mid.length = j ∧ 0 < mid.length
theorem DelM.first {f : Int × Int → Bool} {L : List (Int × Int)} {k : Nat} (hk : k < L.length) (h1 : f L[k] = true) (h2 : ∀ j (h : j < L.length), j < k → f L[j] = false) : DelM f L (k + 1) L ∧ ((L.take (k + 1)).filter (fun p => !f p)).length = k := by
  have e1 : (L.take k).filter (fun p => !f p) = L.take k := by
    rw [List.filter_eq_self]
    intro a ha
    obtain ⟨i, hi, rfl⟩ := List.mem_iff_getElem.1 ha
    have hil : i < k := by rw [List.length_take] at hi; omega
    rw [List.getElem_take, h2 i (by omega) hil]; rfl
  have e2 : (L.take (k + 1)).filter (fun p => !f p) = L.take k := by
    rw [List.take_succ_eq_append_getElem hk, List.filter_append, e1]
    simp [h1]
  refine ⟨⟨[L[k]], ?_, ?_, by simp⟩, ?_⟩
  · rw [e2, List.singleton_append, ← List.drop_eq_getElem_cons hk, List.take_append_drop]
  · rw [e2, List.length_take]; simp; omega
  · rw [e2, List.length_take]; omega
theorem DelM.len {f : Int × Int → Bool} {L M : List (Int × Int)} {j : Nat} (h : DelM f L j M) (hj : j ≤ L.length) : M.length = L.length := by
  obtain ⟨mid, rfl, h1, _⟩ := h
  rw [List.length_append, List.length_append, List.length_drop]
  omega
theorem DelM.at_ {f : Int × Int → Bool} {L M : List (Int × Int)} {j : Nat} (h : DelM f L j M) (hj : j < L.length) : M[j]? = some L[j] := by
  obtain ⟨mid, rfl, h1, _⟩ := h
  rw [← List.append_assoc, List.getElem?_append_right (by rw [List.length_append]; omega), List.length_append, h1, Nat.sub_self, List.getElem?_drop, Nat.add_zero, List.getElem?_eq_getElem hj]
theorem DelM.no {f : Int × Int → Bool} {L M : List (Int × Int)} {j : Nat} (h : DelM f L j M) (hj : j < L.length) (hf : f L[j] = true) : DelM f L (j + 1) M ∧ (L.take (j + 1)).filter (fun p => !f p) = (L.take j).filter (fun p => !f p) := by
  obtain ⟨mid, rfl, h1, h2⟩ := h
  have e : (L.take (j + 1)).filter (fun p => !f p) = (L.take j).filter (fun p => !f p) := by
    rw [List.take_succ_eq_append_getElem hj, List.filter_append]; simp [hf]
  refine ⟨⟨mid ++ [L[j]], ?_, ?_, by simp⟩, e⟩
  · rw [e, List.drop_eq_getElem_cons hj]; simp
  · rw [e]; simp; omega
theorem DelM.yes {f : Int × Int → Bool} {L M : List (Int × Int)} {j : Nat} (h : DelM f L j M) (hj : j < L.length) (hf : f L[j] = false) : DelM f L (j + 1) (M.set ((L.take j).filter (fun p => !f p)).length L[j]) ∧ ((L.take (j + 1)).filter (fun p => !f p)).length = ((L.take j).filter (fun p => !f p)).length + 1 := by
  obtain ⟨mid, rfl, h1, h2⟩ := h
  have e : (L.take (j + 1)).filter (fun p => !f p) = (L.take j).filter (fun p => !f p) ++ [L[j]] := by
    rw [List.take_succ_eq_append_getElem hj, List.filter_append]; simp [hf]
  obtain ⟨m0, mt, rfl⟩ : ∃ a l, mid = a :: l := by
    cases mid with
    | nil => simp at h2
    | cons a l => exact ⟨a, l, rfl⟩
  refine ⟨⟨mt ++ [L[j]], ?_, ?_, by simp⟩, ?_⟩
  · rw [e, List.set_append_right _ _ (Nat.le_refl _), Nat.sub_self, List.cons_append, List.set_cons_zero, List.drop_eq_getElem_cons hj]
    simp
  · rw [e]; simp at h1 ⊢; omega
  · rw [e]; simp
theorem DelM.end_ {f : Int × Int → Bool} {L M : List (Int × Int)} (h : DelM f L L.length M) : M.take ((L.take L.length).filter (fun p => !f p)).length = L.filter (fun p => !f p) ∧ ((L.take L.length).filter (fun p => !f p)).length < L.length := by
  obtain ⟨mid, rfl, h1, h2⟩ := h
  refine ⟨?_, by omega⟩
  rw [List.take_length, List.take_left]
theorem zeroD (n : Nat) : (Builtin.zeroCells #[Value.int .i64 0, .int .i64 0] n).toList = List.replicate (n * 2) (.int .i64 0) := by
  apply List.ext_getElem
  · simp [Builtin.zeroCells]
  · intro i h1 h2
    have : i % 2 = 0 ∨ i % 2 = 1 := by omega
    rcases this with e | e <;> simp [Builtin.zeroCells, e]
theorem spL_takeD (L : List (Int × Int)) : ∀ m, (spL L).take (m * 2) = spL (L.take m) := by
  induction L with
  | nil => intro m; simp [spL]
  | cons p l ih =>
    intro m
    cases m with
    | zero => simp [spL]
    | succ m =>
      rw [show (m + 1) * 2 = m * 2 + 1 + 1 by omega]
      simp [spL, ih]
theorem below_setCellsD {base g : Nat} : ∀ (vs : List Value) (o : Nat) (w : World), base ≤ g → Below base w (w.setCells g o vs)
  | [], _, w, _ => Below.refl base w
  | v :: vs, o, w, h => ((Below.refl base w).setCell (p := ⟨g, o, none⟩) h v).trans (below_setCellsD vs (o + 1) _ h)
theorem own_put2 {w : World} {base g n cap : Nat} {e : TypeId} {M : List (Int × Int)} (h : w.ownsRow base e 2 (.slice (some ⟨g, 0, none⟩) n cap) n (spL M)) (i : Nat) (q : Int × Int) :
    ((w.setCell ⟨g, i * 2, none⟩ (.int .i64 q.1)).setCell ⟨g, i * 2 + 1, none⟩ (.int .i64 q.2)).ownsRow base e 2 (.slice (some ⟨g, 0, none⟩) n cap) n (spL (M.set i q)) := by
  have := ((h.stored (i * 2) (.int .i64 q.1)).1.stored (i * 2 + 1) (.int .i64 q.2)).1
  rw [spL_set] at this
  exact this
set_option maxRecDepth 100000 in
set_option maxHeartbeats 2000000 in
theorem deleteFuncD_any (base g cap n : Nat) (K : FuncId) (caps : Array Value) (L : List (Int × Int)) (f : Int × Int → Bool) (w : World) (h : w.ownsRow base 50 2 (.slice (some ⟨g, 0, none⟩) n cap) n (spL L)) (hl : L.length = n) (hn : n ≤ 1000000) (hK : Enters K)
    (hF : ∀ p ∈ L, ∀ wr, Below base w wr → Calls Try.prog K (#[sqA p] ++ caps) wr fun e w' => e = .returned (.bool (f p)) ∧ Below wr.heap.size wr w') :
    Calls Try.prog 40 #[.slice (some ⟨g, 0, none⟩) n cap, .func (.func K) #[] caps] w fun e w' => ∃ m, e = .returned (.slice (some ⟨g, 0, none⟩) m cap) ∧ (L.filter fun p => !f p).length = m ∧ m ≤ n ∧
      w'.ownsRow base 50 2 (.slice (some ⟨g, 0, none⟩) m cap) m (spL (L.filter fun p => !f p)) ∧ Below base w w' := by
  obtain ⟨hcap, hbg, hgw⟩ := ownD_cap h
  have hbw : base ≤ w.heap.size := by omega
  have IX := Lib.hid (indexFuncD_any g cap n K caps L f w (own_spots h hl) hl (by omega) hK (fun p hp wr hb => hF p hp wr (hb.mono hbw)))
  have FH := Lib.hid hF
  have HL := Lib.hid hl
  have O0 := Lib.hid h
  clear hF h hl
  unfold Enters at hK
  go_enter Try.func40, Try.ntmps40
  go_wp2_with fail
  refine IX.out.mono ?_
  rintro e w1 ⟨⟨r, rfl, hr⟩, hb1⟩
  have O1 := Lib.hid (own_ext hb1 O0.out)
  have z1 := hb1.size
  have BB := Lib.hid (hb1.mono hbw)
  clear IX hb1
  rcases hr with ⟨k, rfl, hk, hfk, hno⟩ | ⟨rfl, hno⟩
  · have DM := DelM.first (f := f) (L := L) (k := k) (by rw [HL.out]; exact hk) (by rw [gq_at (by rw [HL.out]; exact hk)]; exact hfk) (fun j hj hjk => by rw [gq_at hj]; exact hno j hjk)
    have DH := Lib.hid DM.1
    have DL := Lib.hid DM.2
    have hk0 : ((k : Int) == -1) = false := by rw [beq_eq_false_iff_ne]; omega
    clear hno hfk DM
    go_wp2_with fail
    go_loopw [5, 6] (fun i j wr => ∃ b m : Nat, b ≤ n ∧ k < b ∧ j = .int .i64 b ∧ i = .int .i64 m ∧ m < b ∧ Hid (((L.take b).filter (fun p => !f p)).length = m ∧ ∃ M, DelM f L b M ∧ wr.ownsRow base 50 2 (.slice (some ⟨g, 0, none⟩) n cap) n (spL M)) ∧ Below base w wr ∧ w.heap.size ≤ wr.heap.size) (fun _ j _ => n - (intOf j).toNat)
    case atStart => exact ⟨k + 1, k, by omega, by omega, by go_num, rfl, by omega, ⟨DL.out, L, DH.out, O1.out⟩, BB.out, z1⟩
    case round =>
      obtain ⟨b, m, hbn, hkb, rfl, rfl, hmb, HD, hbl, hz⟩ := hrel
      clear DH DL O1 BB z1 hk0
      by_cases hlt : b < n
      · obtain ⟨hm, M, hD, hO⟩ := HD.out
        clear HD
        have hbL : b < L.length := by rw [HL.out]; exact hlt
        have hML : M.length = n := by rw [hD.len (by omega), HL.out]
        have hat := hD.at_ hbL
        have hgr := (ownD_cap hO).2.2
        have S := own_spots hO hML
        obtain ⟨c0, c1⟩ := S.2 b (by omega)
        obtain ⟨d0, d1⟩ := S.2 m (by omega)
        have hMb : M[b]'(by omega) = L[b] := by
          have := List.getElem?_eq_getElem (show b < M.length by omega)
          rw [this] at hat; exact Option.some.inj hat
        rw [hMb] at c0 c1
        have F := FH.out L[b] (List.getElem_mem _)
        obtain ⟨q, hq⟩ : ∃ q, L[b] = q := ⟨_, rfl⟩
        obtain ⟨bq, hbq⟩ : ∃ bq, f q = bq := ⟨_, rfl⟩
        rw [hq] at F c0 c1
        rw [hbq] at F
        have FC := Lib.hid F
        have f0 := hO.frozenAt (m * 2)
        have f1 := hO.frozenAt (m * 2 + 1)
        have HO := Lib.hid (fun V (hb : Below wr.heap.size wr V) => own_ext hb hO)
        have HQ := Lib.hid (And.intro hq hbq)
        have HDD := Lib.hid hD
        have HM := Lib.hid hm
        have i0 : (0 : Int) ≤ (b : Int) := by omega
        have i1 : (b : Int) < (n : Int) := by omega
        have i2 : (0 : Int) ≤ (m : Int) := by omega
        have i3 : (m : Int) < (n : Int) := by omega
        obtain ⟨qx, qy⟩ := q
        simp only at c0 c1
        have BX := Lib.hid (Ext.more (Ext.refl wr) (.cells #[.int .i64 qx, .int .i64 qy] 50))
        have C := Lib.hid (FC.out (wr.alloc (.cells #[.int .i64 qx, .int .i64 qy] 50)) (hbl.trans (BX.out.mono (by omega))))
        have x0 : (wr.alloc (.cells #[.int .i64 qx, .int .i64 qy] 50)).cell? ⟨wr.heap.size, 0, none⟩ = some (.int .i64 qx) := cell_new wr _ _ 0
        have x1 : (wr.alloc (.cells #[.int .i64 qx, .int .i64 qy] 50)).cell? ⟨wr.heap.size, 1, none⟩ = some (.int .i64 qy) := cell_new wr _ _ 1
        have zx : (wr.alloc (.cells #[.int .i64 qx, .int .i64 qy] 50)).heap.size = wr.heap.size + 1 := by simp
        unfold sqA at C
        simp only at C
        clear hq hbq hD S hMb hat F FC d0 d1 f0 f1
        cases bq
        · have HBB := Lib.hid hbl
          go_wp2_with fail
          refine C.out.mono ?_
          rintro e w2 ⟨rfl, hb2⟩
          have hb3 := BX.out.trans (hb2.mono (by omega))
          have O2 := HO.out w2 hb3
          have S2 := own_spots O2 hML
          obtain ⟨d0, d1⟩ := S2.2 m (by omega)
          have f0 := O2.frozenAt (m * 2)
          have f1 := O2.frozenAt (m * 2 + 1)
          have hg2 := S2.1
          have y0 := (hb2.cell (p := ⟨wr.heap.size, 0, none⟩) (by show wr.heap.size < _; omega)).trans x0
          have y1 := (hb2.cell (p := ⟨wr.heap.size, 1, none⟩) (by show wr.heap.size < _; omega)).trans x1
          have z2 := hb3.size
          have OO := Lib.hid (own_put2 O2 m (qx, qy))
          have BW := Lib.hid (((hbl.trans (hb3.mono (by omega))).setCell (p := ⟨g, m * 2, none⟩) hbg (.int .i64 qx)).setCell (p := ⟨g, m * 2 + 1, none⟩) hbg (.int .i64 qy))
          have DY := Lib.hid (HDD.out.yes (by rw [HL.out]; exact hlt) (by rw [HQ.out.1]; exact HQ.out.2))
          have e0 : (w2.setCell ⟨g, m * 2, none⟩ (.int .i64 qx)).cell? ⟨g, m * 2 + 1, none⟩ = some (.int .i64 (M[m]'(by omega)).2) := (World.cell?_setCell_other w2 _ _ _ (fun e => by injection e with _ e; omega)).trans d1
          generalize (M[m]'(by omega)).1 = v0 at d0
          generalize (M[m]'(by omega)).2 = v1 at d1 e0
          clear S2 hb2 hb3 O2 hm hML
          go_wp2_with fail
          go_roundw
          case rel =>
            refine ⟨b + 1, m + 1, by omega, by omega, by go_num, by go_num, by omega, ⟨by rw [DY.out.2, HM.out], M.set m (qx, qy), ?_, OO.out⟩, BW.out, by simp [World.setCell]; omega⟩
            have := DY.out.1
            rw [HM.out, HQ.out.1] at this
            exact this
          case measure => simp [intOf]; omega
        · go_wp2_with fail
          refine C.out.mono ?_
          rintro e w2 ⟨rfl, hb2⟩
          have hb3 := BX.out.trans (hb2.mono (by omega))
          have O2 := Lib.hid (HO.out w2 hb3)
          have BW := Lib.hid (hbl.trans (hb3.mono (by omega)))
          have z2 := hb3.size
          have DN := Lib.hid (HDD.out.no (by rw [HL.out]; exact hlt) (by rw [HQ.out.1]; exact HQ.out.2))
          clear hb2 hb3 hbl hm
          go_wp2_with fail
          go_roundw
          case rel => exact ⟨b + 1, m, by omega, by omega, by go_num, rfl, by omega, ⟨by rw [DN.out.2]; exact HM.out, M, DN.out.1, O2.out⟩, BW.out, by omega⟩
          case measure => simp [intOf]; omega
      · obtain rfl : b = n := by omega
        obtain ⟨hm, M, hD, hO⟩ := HD.out
        clear HD
        have hML : M.length = b := by rw [hD.len (by rw [HL.out]; exact Nat.le_refl _), HL.out]
        have hE := hD
        rw [← HL.out] at hE
        obtain ⟨e1, e2⟩ := hE.end_
        rw [HL.out, hm] at e1 e2
        clear hE
        have hcl : ∀ ty, (Builtin.clear_ #[45] ty #[.slice (some ⟨g, m * 2, none⟩) (b - m) (cap - m)]).run Try.prog wr = .ok (.tuple #[]) (wr.setCells g (m * 2) (List.replicate ((b - m) * 2) (.int .i64 0))) := by
          intro ty
          have hst := run_storeCells_cells (P := Try.prog) g (m * 2) (List.replicate ((b - m) * 2) (.int .i64 0)) 0 wr (fun j hj => by
            rw [List.length_replicate] at hj
            rw [hO.cellAt _ (by omega), List.getElem?_eq_getElem (by rw [hO.1]; omega)]; rfl) (fun j _ => hO.frozenAt _) (by simp [Value.oneCell'])
          obtain ⟨d, hd⟩ : ∃ d, b - m = d + 1 := ⟨b - m - 1, by omega⟩
          rw [hd] at hst ⊢
          simp [Builtin.clear_, run_underlying Try.underlying45, Value.cells, zeroD] at hst ⊢
          rw [hst]; rfl
        have OF := Lib.hid (by
          have h1 := ownD_setCells (List.replicate ((b - m) * 2) (.int .i64 0)) (m * 2) wr _ (by rw [hO.1, List.length_replicate]; omega) hO
          have h2 := ownD_shrink h1 (show m ≤ b by omega)
          rw [List.append_assoc, List.take_left' (by rw [List.length_take, hO.1]; omega), spL_takeD, e1] at h2
          exact h2)
        have FL : Hid ((L.filter fun p => !f p).length = m) := by
          have ht : L.take b = L := List.take_of_length_le (by rw [HL.out]; exact Nat.le_refl _)
          rw [ht] at hm; exact hm
        have BF := Lib.hid (hbl.trans (below_setCellsD (List.replicate ((b - m) * 2) (.int .i64 0)) (m * 2) wr hbg))
        have q0 : (0 : Int) ≤ (m : Int) := by omega
        have q1 : (m : Int) ≤ (b : Int) := by omega
        have q2 : ¬ (cap = m) := by omega
        have q3 : m ≤ b := by omega
        have q4 : m ≤ cap := by omega
        have hg2 := (ownD_cap hO).2.2
        clear hm e1 hML hO hD hbl
        go_wp2_with fail
        go_ret
        exact ⟨m, rfl, FL.out, q3, OF.out, BF.out⟩
  · have FA : Hid (L.filter (fun p => !f p) = L) := by
      rw [Hid, List.filter_eq_self]
      intro a ha
      obtain ⟨i, hi, rfl⟩ := List.mem_iff_getElem.1 ha
      have := hno i (by rw [← HL.out]; exact hi)
      rw [gq_at hi]
      simp only at this
      rw [this]; rfl
    clear hno
    go_wp2_with fail
    go_ret
    exact ⟨n, rfl, by rw [FA.out]; exact HL.out, Nat.le_refl _, by rw [FA.out]; exact O1.out, BB.out⟩
end Go.Proofs.Ytdhajndmebnknaa

namespace Go.Proofs.Ytdhajndmebnknaa
open Go.RowKit

theorem enters_ends1 : Enters 42 := enters_of Try.func42 (by kernel_rfl) (by kernel_rfl)
set_option maxHeartbeats 1000000 in
theorem ends1_any (p g W H m : Nat) (L : List Bool) (q : Int × Int) (w : World) (h : Img w p g W H L) (hm : Blk w m 57 #[.pointer (some ⟨p, 0, none⟩)]) (hW : W ≤ 1000) (hH : H ≤ 1000) (hx : -900 ≤ q.1 ∧ q.1 ≤ 900) (hy : -900 ≤ q.2 ∧ q.2 ≤ 900) :
    Calls Try.prog 42 (#[sqA q] ++ #[.pointer (some ⟨m, 0, none⟩)]) w fun e w' => e = .returned (.bool (((coN L W H q : Nat) : Int) != 1)) ∧ Below w.heap.size w w' := by
  obtain ⟨x, y⟩ := q
  have B0 : Below w.heap.size w (w.alloc (.cells #[.int .i64 x, .int .i64 y] 50)) := Ext.more (Ext.refl _) _
  have GK := Lib.hid (company_any p g W H L x y _ (h.ext B0) hW hH hx hy)
  have k3 : (w.alloc (.cells #[.int .i64 x, .int .i64 y] 50)).cell? ⟨w.heap.size, 0, none⟩ = some (.int .i64 x) := cell_new w _ _ 0
  have k4 : (w.alloc (.cells #[.int .i64 x, .int .i64 y] 50)).cell? ⟨w.heap.size, 1, none⟩ = some (.int .i64 y) := cell_new w _ _ 1
  have c0 := (hm.under B0 hm.lt).cell 0
  simp at c0
  clear h hm hx hy
  unfold sqA
  generalize coN L W H (x, y) = b at *
  go_enter Try.func42, Try.ntmps42
  go_wp2_with fail
  refine GK.out.mono ?_
  rintro e w2 ⟨rfl, hb2⟩
  go_wp2_with fail
  go_ret
  exact ⟨rfl, Ext.then_ B0 hb2⟩
/-- The ends. -/
def endsV (L : List Bool) (W H : Nat) : List (Int × Int) := (spB L W (W * H)).filter fun p => !(((coN L W H p : Nat) : Int) != 1)
set_option maxHeartbeats 2000000 in
theorem endsOf_any (A : Option Addr) (cc : Nat) (rows : List ByteArray) (w : World) (h : Rd w A (strs rows)) (hp : picOk rows = true) :
    Calls Try.prog 22 #[.agg #[.slice A rows.length cc]] w fun e w' => ∃ g m cap, e = .returned (.tuple #[.slice (some ⟨g, 0, none⟩) m cap, .bool true]) ∧ (endsV (picBits rows) (picW rows) rows.length).length = m ∧ m ≤ 256 ∧
      SpAt w' g (endsV (picBits rows) (picW rows) rows.length) ∧ Below w.heap.size w w' := by
  have B1 : Below w.heap.size w (w.alloc (.cells #[.slice A rows.length cc] 28)) := Ext.more (Ext.refl _) _
  obtain ⟨s1, s2, s3, s4⟩ := picOk_sizes hp
  have IM := Lib.hid (imageOf_any A cc rows _ (h.ext B1) (by omega))
  have IH := Lib.hid (IM.out.mono (fun e w' hI => (show (∃ p g, e = .returned (.tuple #[.pointer (some ⟨p, 0, none⟩), .bool true]) ∧ Img w' p g (picW rows) rows.length (picBits rows)) ∧ Below _ _ w' from ⟨(hI.yes hp).elim fun p h => h.elim fun g h => ⟨p, g, h.1, h.2.1⟩, hI.ext⟩)))
  obtain ⟨W, hW⟩ : ∃ W, picW rows = W := ⟨_, rfl⟩
  obtain ⟨H, hH⟩ : ∃ H, rows.length = H := ⟨_, rfl⟩
  obtain ⟨L, hL⟩ : ∃ L, picBits rows = L := ⟨_, rfl⟩
  rw [hW, hH, hL] at IH
  rw [hW, hH, hL]
  rw [hW] at s3 s4
  rw [hH] at s1 s2
  rw [hH] at B1
  have WH : W * H ≤ 16 * 16 := Nat.mul_le_mul s4 s2
  have SPM := Lib.hid (fun p g V (hV : Img V p g W H L) => spotsM_any p g W H L V hV (by omega) (by omega))
  have DEL : Hid (∀ (p g0 m0 base g cap n : Nat) (w0 V : World), Img w0 p g0 W H L → Blk w0 m0 57 #[.pointer (some ⟨p, 0, none⟩)] → w0.heap.size ≤ base → Below w0.heap.size w0 V → (spB L W (W * H)).length = n → V.ownsRow base 50 2 (.slice (some ⟨g, 0, none⟩) n cap) n (spL (spB L W (W * H))) →
      Calls Try.prog 40 #[.slice (some ⟨g, 0, none⟩) n cap, .func (.func 42) #[] #[.pointer (some ⟨m0, 0, none⟩)]] V fun e w' => ∃ m, e = .returned (.slice (some ⟨g, 0, none⟩) m cap) ∧ (endsV L W H).length = m ∧ m ≤ 256 ∧ SpAt w' g (endsV L W H) ∧ Below base V w') := by
    intro p g0 m0 base g cap n w0 V hI hm0 hb0 hbV hn hO
    refine (deleteFuncD_any base g cap n 42 #[.pointer (some ⟨m0, 0, none⟩)] (spB L W (W * H)) (fun p => ((coN L W H p : Nat) : Int) != 1) V hO hn (by have := spB_len L W (W * H); omega) enters_ends1 (fun q hq wr hb => ?_)).mono ?_
    · have hbw : Below w0.heap.size w0 wr := hbV.trans (hb.mono hb0)
      obtain ⟨x, y, rfl, hx, hy, _⟩ := (spB_mem (by omega)).1 hq
      exact ends1_any p g0 W H m0 L _ wr (hI.ext hbw) (hm0.under hbw hm0.lt) (by omega) (by omega) (by simp only; omega) (by simp only; omega)
    · rintro e w' ⟨m, rfl, h1, h2, h3, h4⟩
      refine ⟨m, rfl, h1, ?_, own_spots h3 h1, h4⟩
      have := spB_len L W (W * H)
      omega
  clear IM hp h s1 s2 s3 s4 hW hL WH
  generalize endsV L W H = EV at *
  subst hH
  have hmf : ∀ (fn : Fn) (first cap : Array Value) (w : World), (Instr.makeFunc fn first cap).run Try.prog w = .ok (.func fn first cap) w := fun _ _ _ _ => rfl
  go_enter Try.func22, Try.ntmps22
  go_wp2_with fail
  refine IH.out.mono ?_
  rintro e w1 ⟨⟨p, g, rfl, hm⟩, hb⟩
  have HM := Lib.hid hm
  have HB := Lib.hid (Ext.then_ B1 hb)
  clear hm IH hb
  go_wp2_with fail
  have XB := Lib.hid (Blk.made w1 57 #[.pointer (some ⟨p, 0, none⟩)])
  have HA := Lib.hid (HM.out.ext (Ext.more (Ext.refl w1) (.cells #[.pointer (some ⟨p, 0, none⟩)] 57)))
  have BA := Lib.hid (Ext.more HB.out (.cells #[.pointer (some ⟨p, 0, none⟩)] 57))
  refine (SPM.out p g _ HA.out).mono ?_
  rintro e w2 ⟨gb, cb, rfl, hown, hb2⟩
  have D := Lib.hid (DEL.out p g w1.heap.size _ gb cb _ _ w2 HA.out XB.out (Nat.le_refl _) hb2 rfl hown)
  have BB := Lib.hid (Ext.then_ BA.out hb2)
  have BC := Lib.hid (fun V (hb : Below (w1.alloc (.cells #[.pointer (some ⟨p, 0, none⟩)] 57)).heap.size w2 V) => Ext.then_ BA.out (hb2.trans hb))
  clear hown hb2 DEL SPM BB HM
  generalize (spB L W (W * rows.length)).length = n at *
  go_wp2_with fail
  refine D.out.mono ?_
  rintro e w3 ⟨m, rfl, h1, h2, h3, h4⟩
  have R := Lib.hid (And.intro h1 (And.intro h2 (And.intro h3 (BC.out _ h4))))
  clear h1 h2 h3 h4
  go_wp2_with fail
  go_ret2
  exact ⟨gb, m, cb, rfl, R.out⟩
end Go.Proofs.Ytdhajndmebnknaa
