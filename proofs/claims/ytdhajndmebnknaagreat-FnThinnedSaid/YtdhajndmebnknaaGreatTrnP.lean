/- How many components a picture has, and how many holes. Turned and mirrored pictures: the program's. Printed by gen_trn.py. TurnPicture at its four kinds. -/
import Derived.Test.YtdhajndmebnknaaGreatTopT
import Derived.Test.YtdhajndmebnknaaGreatTopG
import Derived.Test.YtdhajndmebnknaaGreatLab
import Derived.Test.YtdhajndmebnknaaGreatGrid
import Derived.Test.YtdhajndmebnknaaGreatTopL
import Derived.Test.YtdhajndmebnknaaGreatWith
namespace Go.Proofs.YtdhajndmebnknaaGreat
open Go.RowKit

theorem enters_inverted1 : Enters 67 := enters_of Tryz.func67 (by kernel_rfl) (by kernel_rfl)
set_option maxRecDepth 100000 in
set_option maxHeartbeats 1000000 in
theorem inverted1_any (p g W H t : Nat) (L : List Bool) (x y : Nat) (w : World) (h : Img w p g W H L) (hW : W ≤ 1000) (hH : H ≤ 1000) (ht : Blk w t 47 #[.pointer (some ⟨p, 0, none⟩)]) :
    Calls Tryz.prog 67 #[.int .i64 x, .int .i64 y, .pointer (some ⟨t, 0, none⟩)] w fun e w' => e = .returned (.bool (!bit L W H (x : Int) (y : Int))) ∧ ∃ k, w' = w.drewN k := by
  have c0 := ht.cell 0
  simp at c0
  have GK := Lib.hid (get_any p g W H L (x : Int) (y : Int) w h hW hH)
  clear h
  generalize bit L W H (x : Int) (y : Int) = b at *
  go_enter Tryz.func67, Tryz.ntmps67
  go_wp2_with fail
  refine GK.out.mono ?_
  rintro e w' ⟨rfl, k, rfl⟩
  go_wp2_with fail
  go_ret
  exact ⟨rfl, _, rfl⟩
set_option maxRecDepth 100000 in
set_option maxHeartbeats 1000000 in
theorem inverted_any (p g W H : Nat) (L : List Bool) (w : World) (h : Img w p g W H L) (hW : W ≤ 100) (hH : H ≤ 100) :
    Calls Tryz.prog 50 #[.pointer (some ⟨p, 0, none⟩)] w fun e w' => ∃ p' g', e = .returned (.pointer (some ⟨p', 0, none⟩)) ∧ Img w' p' g' W H (invL L W H) ∧ w.heap.size ≤ p' ∧ w.heap.size ≤ g' ∧ Below w.heap.size w w' := by
  have c0 := h.hdr.cell 0
  have c1 := h.hdr.cell 1
  simp at c0 c1
  have hp := h.hdr.lt
  have M : Hid (∀ V : World, Below w.heap.size w V → Blk V w.heap.size 47 #[.pointer (some ⟨p, 0, none⟩)] → Calls Tryz.prog 65 #[.int .i64 W, .int .i64 H, .func (.func 67) #[] #[.pointer (some ⟨w.heap.size, 0, none⟩)]] V fun e w' => ∃ p g, e = .returned (.pointer (some ⟨p, 0, none⟩)) ∧
      Img w' p g W H (invL L W H) ∧ V.heap.size ≤ p ∧ V.heap.size ≤ g ∧ Below V.heap.size V w') := by
    intro V hb hB
    exact made_any W H 67 #[.pointer (some ⟨w.heap.size, 0, none⟩)] (fun i => !bit L W H ((i % W : Nat) : Int) ((i / W : Nat) : Int)) V (by omega) (by omega) enters_inverted1 (by
      intro x y hx hy wr hwr
      refine (inverted1_any p g W H w.heap.size L x y wr (h.ext (hb.trans (hwr.mono hb.size))) (by omega) (by omega) (hB.under hwr hB.lt)).mono ?_
      rintro e w' ⟨rfl, k, rfl⟩
      simp only [divT hx, modT hx]
      exact ⟨trivial, Ext.drawN (Ext.refl _) _⟩)
  have hmf : ∀ (fn : Fn) (first cap : Array Value) (w : World), (Instr.makeFunc fn first cap).run Tryz.prog w = .ok (.func fn first cap) w := fun _ _ _ _ => rfl
  have B0 := Blk.made w 47 #[.pointer (some ⟨p, 0, none⟩)]
  have B1 : Below w.heap.size w (w.alloc (.cells #[.pointer (some ⟨p, 0, none⟩)] 47)) := Ext.more (Ext.refl _) _
  go_enter Tryz.func50, Tryz.ntmps50
  go_wp2_with fail
  go_region_held3 (fun w' => w'.cell? ⟨w.heap.size, 0, none⟩ = some (.pointer (some ⟨p, 0, none⟩)) ∧ w'.cell? ⟨p, 0, none⟩ = some (.int .i64 W) ∧ w'.cell? ⟨p, 1, none⟩ = some (.int .i64 H))
    (first | ((go_split_ands; refine ⟨?_, ?_, ?_⟩ <;> exact (hb'.cell (p := ⟨_, _, none⟩) (by first | omega | (simp; omega) | simp)).trans (by assumption))) | (simp [go_sem, World.cell?_alloc_past, hp, c0, c1]))
    (first | (go_at_call 65; refine (M.out _ B1.drew B0).mono ?_; rintro e w' ⟨p', g', rfl, hm', hp', hg', hb'⟩))
  go_wp2_with fail
  go_ret
  exact ⟨p', g', rfl, hm', by have := B1.size; simp at hp'; omega, by have := B1.size; simp at hg'; omega, Ext.then_ B1.drew hb'⟩
set_option maxRecDepth 100000 in
set_option maxHeartbeats 1000000 in
theorem holes_any (p g W H : Nat) (L : List Bool) (c : Bool) (w : World) (h : Img w p g W H L) (hW : W ≤ 16) (hH : H ≤ 16) :
    Calls Tryz.prog 24 #[.pointer (some ⟨p, 0, none⟩), .bool c] w fun e w' => e = .returned (.int .i64 (holeN c L W H)) ∧ Below w.heap.size w w' := by
  obtain ⟨K, hK, NB⟩ := nbT_C (!c)
  have F := Lib.hid (framedT_any p g W H L w h (by omega) (by omega))
  have I := Lib.hid (fun p g V hV => inverted_any p g (W + 2) (H + 2) (padL L W H) V hV (by omega) (by omega))
  have LB := Lib.hid (fun p g V hV => labels_any NB hK p g (W + 2) (H + 2) (invL (padL L W H) (W + 2) (H + 2)) V hV (by omega) (by omega) (by omega))
  have hn := compN_le (!c) (invL (padL L W H) (W + 2) (H + 2)) (W + 2) (H + 2)
  have hb : (W + 2) * (H + 2) ≤ 18 * 18 := Nat.mul_le_mul (by omega) (by omega)
  have E : Hid (∀ n : Nat, n = compN (!c) (invL (padL L W H) (W + 2) (H + 2)) (W + 2) (H + 2) → (n : Int) - 1 = holeN c L W H) := by intro n e; rw [e]; rfl
  have LB' : Hid (∀ p g V, Img V p g (W + 2) (H + 2) (invL (padL L W H) (W + 2) (H + 2)) → Calls Tryz.prog 21 #[.pointer (some ⟨p, 0, none⟩), .bool (!c)] V fun e w' =>
      ∃ (v : Value) (n : Nat), n ≤ 324 ∧ n = compN (!c) (invL (padL L W H) (W + 2) (H + 2)) (W + 2) (H + 2) ∧ e = .returned (.tuple #[v, .int .i64 n]) ∧ Below V.heap.size V w') :=
    fun p g V hV => (LB.out p g V hV).mono fun e w' ⟨h1, _, h2⟩ => ⟨_, _, by omega, rfl, h1, h2⟩
  clear LB NB hn hb h
  go_enter Tryz.func24, Tryz.ntmps24
  go_wp2_with fail
  refine F.out.mono ?_
  rintro e w1 ⟨p1, g1, rfl, hm1, hb1⟩
  have I1 := Lib.hid (I.out p1 g1 w1 hm1)
  clear hm1 I
  go_wp2_with fail
  refine I1.out.mono ?_
  rintro e w2 ⟨p2, g2, rfl, hm2, _, _, hb2⟩
  have L2 := Lib.hid (LB'.out p2 g2 w2 hm2)
  clear hm2 LB'
  go_wp2_with fail
  refine L2.out.mono ?_
  rintro e w3 ⟨v, n, hn, hne, rfl, hb3⟩
  have R := Lib.hid (E.out n hne)
  clear hne E
  go_wp2_with fail
  go_ret
  refine ⟨?_, Ext.then_ (Ext.then_ hb1 hb2) hb3⟩
  rw [← R.out]
  rfl
set_option maxHeartbeats 1000000 in
theorem countHoles_any (A : Option Addr) (cc : Nat) (rows : List ByteArray) (c : Bool) (w : World) (h : Rd w A (strs rows)) (hp : picOk rows = true) :
    Calls Tryz.prog 7 #[.agg #[.slice A rows.length cc], .bool c] w fun e w' => e = .returned (.tuple #[.int .i64 (holeN c (picBits rows) (picW rows) rows.length), .bool true]) ∧ Below w.heap.size w w' := by
  have B1 : Below w.heap.size w (w.alloc (.cells #[.slice A rows.length cc] 26)) := Ext.more (Ext.refl _) _
  obtain ⟨s1, s2, s3, s4⟩ := picOk_sizes hp
  have IM := Lib.hid (imageOf_any A cc rows _ (h.ext B1) (by omega))
  have IH := Lib.hid (IM.out.mono (fun e w' hI => (show (∃ p g, e = .returned (.tuple #[.pointer (some ⟨p, 0, none⟩), .bool true]) ∧ Img w' p g (picW rows) rows.length (picBits rows)) ∧ Below _ _ w' from ⟨(hI.yes hp).elim fun p h => h.elim fun g h => ⟨p, g, h.1, h.2.1⟩, hI.ext⟩)))
  have PK := Lib.hid (fun p g V (hV : Img V p g (picW rows) rows.length (picBits rows)) => holes_any p g _ _ _ c V hV s4 s2)
  clear IM hp h s1 s2 s3 s4
  generalize holeN c (picBits rows) (picW rows) rows.length = hn at *
  go_enter Tryz.func7, Tryz.ntmps7
  go_wp2_with fail
  refine IH.out.mono ?_
  rintro e w1 ⟨⟨p, g, rfl, hm⟩, hb⟩
  have P1 := Lib.hid (PK.out p g w1 hm)
  clear hm PK
  go_wp2_with fail
  refine P1.out.mono ?_
  rintro e w2 ⟨rfl, hb2⟩
  go_wp2_with fail
  go_ret2
  exact ⟨rfl, Ext.then_ (Ext.then_ B1 hb) hb2⟩
theorem enters_compOf1 : Enters 23 := enters_of Tryz.func23 (by kernel_rfl) (by kernel_rfl)
set_option maxHeartbeats 1000000 in
theorem compOf1_any (m M : Nat) (f : Int × Int → Nat) (x y : Nat) (w : World) (hm : Blk w m 50 #[.map (some M)]) (hM : MapF spV spOk w M (lv f)) (hx : x < 1000) (hy : y < 1000) :
    Calls Tryz.prog 23 (#[.int .i64 x, .int .i64 y] ++ #[.pointer (some ⟨m, 0, none⟩)]) w fun e w' => e = .returned (.int .i64 (f ((x : Int), (y : Int)) : Nat)) ∧ Below w.heap.size w w' := by
  have c0 := hm.cell 0
  simp at c0
  have MM := Lib.hid hM
  have QK : Hid (spOk ((x : Int), (y : Int))) := by unfold Hid spOk; simp only; omega
  have E := Lib.hid (lv_get f ((x : Int), (y : Int)))
  have B := Lib.hid (Ext.refl w)
  clear hm hM
  go_enter Tryz.func23, Tryz.ntmps23
  go_wp2_with (at_lookup; refine wpList_lookF spotK _ (by rfl) _ _ _ false (by rfl) Tryz.underlying50 (zeroInt64' _) (by rfl) MM.out ((x : Int), (y : Int)) QK.out (by rfl) ?_)
  rw [E.out]
  go_wp2_with fail
  go_ret
  exact ⟨rfl, B.out⟩
set_option maxHeartbeats 2000000 in
theorem componentsOf_any (A : Option Addr) (cc : Nat) (rows : List ByteArray) (c : Bool) (w : World) (h : Rd w A (strs rows)) (hp : picOk rows = true) :
    Calls Tryz.prog 6 #[.agg #[.slice A rows.length cc], .bool c] w fun e w' => ∃ v, e = .returned (.tuple #[v, .int .i64 (compN c (picBits rows) (picW rows) rows.length : Nat), .bool true]) ∧ Below w.heap.size w w' := by
  have B1 : Below w.heap.size w (w.alloc (.cells #[.slice A rows.length cc] 26)) := Ext.more (Ext.refl _) _
  obtain ⟨s1, s2, s3, s4⟩ := picOk_sizes hp
  obtain ⟨K, hK, NB⟩ := nbT_C c
  have IM := Lib.hid (imageOf_any A cc rows _ (h.ext B1) (by omega))
  have IH := Lib.hid (IM.out.mono (fun e w' hI => (show (∃ p g, e = .returned (.tuple #[.pointer (some ⟨p, 0, none⟩), .bool true]) ∧ Img w' p g (picW rows) rows.length (picBits rows)) ∧ Below _ _ w' from ⟨(hI.yes hp).elim fun p h => h.elim fun g h => ⟨p, g, h.1, h.2.1⟩, hI.ext⟩)))
  obtain ⟨W, hW⟩ : ∃ W, picW rows = W := ⟨_, rfl⟩
  obtain ⟨H, hH⟩ : ∃ H, rows.length = H := ⟨_, rfl⟩
  obtain ⟨L, hL⟩ : ∃ L, picBits rows = L := ⟨_, rfl⟩
  rw [hW, hH, hL] at IH
  rw [hW, hH, hL]
  rw [hW] at s3 s4
  rw [hH] at s1 s2
  rw [hH] at B1
  have PK : Hid (∀ p g V, Img V p g W H L → Calls Tryz.prog 21 #[.pointer (some ⟨p, 0, none⟩), .bool c] V fun e w' =>
      ∃ (M n : Nat) (f : Int × Int → Nat), n = compN c L W H ∧ e = .returned (.tuple #[.map (some M), .int .i64 n]) ∧ MapF spV spOk w' M (lv f) ∧ Below V.heap.size V w') :=
    fun p g V hV => (labels_any NB hK p g W H L V hV (by omega) (by omega) (by omega)).mono fun e w' ⟨h1, h2, h3⟩ => ⟨_, _, _, rfl, h1, h2, h3⟩
  have GK : Hid (∀ p g m M f V, Img V p g W H L → Blk V m 50 #[.map (some M)] → MapF spV spOk V M (lv f) → Calls Tryz.prog 22 #[.pointer (some ⟨p, 0, none⟩), .func (.func 23) #[] #[.pointer (some ⟨m, 0, none⟩)]] V fun e w' =>
      ∃ v, e = .returned v ∧ Below V.heap.size V w') := fun p g m M f V hI hm hM =>
    (grid_any p W H _ 23 #[.pointer (some ⟨m, 0, none⟩)] (fun x y => (f ((x : Int), (y : Int)) : Nat)) V hI.hdr (by omega) (by omega) enters_compOf1 (fun x y hx hy wr hb => compOf1_any m M f x y wr (hm.under hb hm.lt) (hM.ext hb) (by omega) (by omega))).mono fun e w' ⟨A', c', vs, h1, _, h3⟩ => ⟨_, h1, h3⟩
  have CN : Hid (∃ cn, cn = compN c L W H) := ⟨_, rfl⟩
  clear IM hp h s1 s2 s3 s4 hW hL NB hK
  subst hH
  have hmf : ∀ (fn : Fn) (first cap : Array Value) (w : World), (Instr.makeFunc fn first cap).run Tryz.prog w = .ok (.func fn first cap) w := fun _ _ _ _ => rfl
  go_enter Tryz.func6, Tryz.ntmps6
  go_wp2_with fail
  refine IH.out.mono ?_
  rintro e w1 ⟨⟨p, g, rfl, hm⟩, hb⟩
  have P1 := Lib.hid (PK.out p g w1 hm)
  have HM := Lib.hid hm
  clear hm PK IH
  go_wp2_with fail
  refine P1.out.mono ?_
  rintro e w2 ⟨M, n, f, hne, rfl, hM, hb2⟩
  have BA := Lib.hid (Ext.more (Ext.then_ (Ext.then_ B1 hb) hb2) (.cells #[.map (some M)] 50))
  have XB := Blk.made w2 50 #[.map (some M)]
  have E2 := Ext.more (Ext.refl w2) (.cells #[.map (some M)] 50)
  have GR := Lib.hid (GK.out p g w2.heap.size M f _ ((HM.out.ext hb2).ext E2) XB (hM.ext E2))
  have NE := Lib.hid hne
  clear hM hb2 XB E2 GK P1 hne B1 hb HM
  go_wp2_with fail
  refine GR.out.mono ?_
  rintro e w3 ⟨v, rfl, hb3⟩
  go_wp2_with fail
  go_ret3
  exact ⟨v, by rw [← NE.out]; rfl, Ext.then_ BA.out hb3⟩
end Go.Proofs.YtdhajndmebnknaaGreat

namespace Go.Proofs.YtdhajndmebnknaaGreat
open Go.RowKit

/-- The picture of kind 0. -/
def trn0 (L : List Bool) (W H : Nat) : List Bool := (List.range (W * H)).map fun i => bit L W H ((W : Int) - 1 - ((i % W : Nat) : Int)) ((i / W : Nat) : Int)
/-- The picture of kind 1. -/
def trn1 (L : List Bool) (W H : Nat) : List Bool := (List.range (W * H)).map fun i => bit L W H ((i % W : Nat) : Int) ((H : Int) - 1 - ((i / W : Nat) : Int))
/-- The picture of kind 2. -/
def trn2 (L : List Bool) (W H : Nat) : List Bool := (List.range (H * W)).map fun i => bit L W H ((i / H : Nat) : Int) ((i % H : Nat) : Int)
/-- The picture of kind 3. -/
def trn3 (L : List Bool) (W H : Nat) : List Bool := (List.range (H * W)).map fun i => bit L W H ((i / H : Nat) : Int) ((H : Int) - 1 - ((i % H : Nat) : Int))
def trnL (k : Nat) (L : List Bool) (W H : Nat) : List Bool := if k = 0 then trn0 L W H else if k = 1 then trn1 L W H else if k = 2 then trn2 L W H else trn3 L W H
def trnW (k W H : Nat) : Nat := if k < 2 then W else H
def trnH (k W H : Nat) : Nat := if k < 2 then H else W
end Go.Proofs.YtdhajndmebnknaaGreat

namespace Go.Proofs.YtdhajndmebnknaaGreat
open Go.RowKit

end Go.Proofs.YtdhajndmebnknaaGreat
