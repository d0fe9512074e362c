/- remade, by a bound method. FillValleys: plain, and the program's. -/
import Derived.Test.YtkamkjbllmgifaaRem
import Derived.Test.YtkamkjbllmgifaaVlV
import Derived.Test.YtkamkjbllmgifaaHQ
namespace Go.Proofs.Ytkamkjbllmgifaa
open Go.RowKit

set_option maxHeartbeats 400000 in
theorem remade1f_any (t x y : Nat) (K : FuncId) (q : Nat) (v : Int) (w : World) (ht : w.cell? ⟨t, 0, none⟩ = some (.func (.func K) #[.pointer (some ⟨q, 0, none⟩)] #[])) (hK : Enters K)
    (hF : Calls Try.prog K #[.pointer (some ⟨q, 0, none⟩), .agg #[.int .i64 x, .int .i64 y]] w fun e w' => e = .returned (.int .i64 v) ∧ Below w.heap.size w w') :
    Calls Try.prog 70 #[.int .i64 x, .int .i64 y, .pointer (some ⟨t, 0, none⟩)] w fun e w' => e = .returned (.int .i64 v) ∧ Below w.heap.size w w' := by
  have FH := Lib.hid hF
  clear hF
  unfold Enters at hK
  go_enter Try.func70, Try.ntmps70
  go_wp2_with fail
  refine FH.out.mono ?_
  rintro e w2 ⟨rfl, hb⟩
  go_wp2_with fail
  go_ret
  exact ⟨rfl, hb⟩
set_option maxRecDepth 100000 in
set_option maxHeartbeats 1000000 in
theorem remadeF_any (p : Nat) (A : Option Addr) (c : Nat) (rows : List (List Int)) (K : FuncId) (q : Nat) (O : Nat → Int) (W H : Nat) (w : World) (h : GreyAt w p A c rows) (hW0 : tabW rows = W) (hH0 : rows.length = H) (hH1 : 0 < H) (hW : W ≤ 1000) (hH : H ≤ 1000) (hK : Enters K)
    (hF : ∀ (x y : Nat), x < W → y < H → ∀ wr, Below w.heap.size w wr → Calls Try.prog K #[.pointer (some ⟨q, 0, none⟩), .agg #[.int .i64 x, .int .i64 y]] wr fun e w' => e = .returned (.int .i64 (O (y * W + x))) ∧ Below wr.heap.size wr w') :
    Calls Try.prog 40 #[.pointer (some ⟨p, 0, none⟩), .func (.func K) #[.pointer (some ⟨q, 0, none⟩)] #[]] w fun e w' => ∃ A c vs, e = .returned (.agg #[.slice A H c]) ∧ MatAt w' w.heap.size w'.heap.size A c vs (gO O W H) ∧ Below w.heap.size w w' := by
  have T1 : Blk ((w.alloc (.cells #[.func (.func K) #[.pointer (some ⟨q, 0, none⟩)] #[]] 62)).alloc (.cells #[.slice none 0 0] 26)) w.heap.size 62 #[.func (.func K) #[.pointer (some ⟨q, 0, none⟩)] #[]] := (Blk.made _ _ _).more _
  have T2 : Blk ((w.alloc (.cells #[.func (.func K) #[.pointer (some ⟨q, 0, none⟩)] #[]] 62)).alloc (.cells #[.slice none 0 0] 26)) (w.heap.size + 1) 26 #[.slice none 0 0] := by
    have := Blk.made (w.alloc (.cells #[.func (.func K) #[.pointer (some ⟨q, 0, none⟩)] #[]] 62)) 26 #[.slice none 0 0]
    simpa using this
  have B1 : Below w.heap.size w ((w.alloc (.cells #[.func (.func K) #[.pointer (some ⟨q, 0, none⟩)] #[]] 62)).alloc (.cells #[.slice none 0 0] 26)) := Ext.more (Ext.more (Ext.refl _) _) _
  have SZ := Lib.hid (sizes_any p A c rows _ (h.ext B1) (by omega))
  rw [hW0, hH0] at SZ
  have z1 : ((w.alloc (.cells #[.func (.func K) #[.pointer (some ⟨q, 0, none⟩)] #[]] 62)).alloc (.cells #[.slice none 0 0] 26)).heap.size = w.heap.size + 1 + 1 := by simp
  have Z1 := Lib.hid z1
  clear z1
  have FH := Lib.hid hF
  have hmf : ∀ (fn : Fn) (first cap : Array Value) (w : World), (Instr.makeFunc fn first cap).run Try.prog w = .ok (.func fn first cap) w := fun _ _ _ _ => rfl
  clear h hW0 hH0 hF
  go_enter Try.func40, Try.ntmps40
  go_wp2_with fail
  generalize hw1 : (w.alloc (.cells #[.func (.func K) #[.pointer (some ⟨q, 0, none⟩)] #[]] 62)).alloc (.cells #[.slice none 0 0] 26) = w1 at *
  refine SZ.out.mono ?_
  rintro e w2 ⟨rfl, n, rfl⟩
  go_wp2_with fail
  refine (blank_any W H _ hW hH).mono ?_
  rintro e w' ⟨rfl, rfl⟩
  have hi := blank_img (w1.drewN n) W H
  have B2 : Below w1.heap.size w1 (((w1.drewN n).alloc (.cells (boolC (List.replicate (W * H) false)) 4)).alloc (.cells #[.int .i64 W, .int .i64 H, .slice (some ⟨w1.heap.size, 0, none⟩) (W * H) (W * H)] 125)) := Ext.more (Ext.more (Ext.drawN (Ext.refl w1) n) _) _
  have GR := Lib.hid (grid_any (w1.heap.size + 1) W H _ 70 #[.pointer (some ⟨w.heap.size, 0, none⟩)] (fun x y => O (y * W + x)) _ hi.hdr hW hH enters_remade1 (fun x y hx hy wr hb => by
    have T3 := (T1.under B2 T1.lt).under hb (T1.under B2 T1.lt).lt
    have c3 := T3.cell 0
    simp at c3
    exact remade1f_any w.heap.size x y K q _ wr c3 hK (FH.out x y hx hy wr (Ext.then_ (Ext.then_ B1 B2) hb))))
  clear hi
  go_wp2_with fail
  refine GR.out.mono ?_
  rintro e w3 ⟨A2, c2, vs, rfl, hm, hb⟩
  have B3 := Ext.then_ (Ext.then_ B1 B2) hb
  have T3 := (T2.under B2 T2.lt).under hb (T2.under B2 T2.lt).lt
  have c0 := T3.cell 0
  have f0 := T3.free 0
  have cs := (T3.store 0 (.slice A2 H c2)).cell 0
  simp at c0 cs
  replace hm := hm.low (lo' := w.heap.size + 1 + 1) (Nat.le_trans (Nat.le_of_eq Z1.out.symm) B2.size) (Nat.le_refl _)
  have HM := Lib.hid hm
  clear hm GR hb B2
  go_wp2_with fail
  refine bodyPost_ret (v := .agg #[.slice A2 H c2]) (by simp [results, Try.results40, go_sem, cs]) rfl ⟨A2, c2, vs, rfl, ?_, ?_⟩
  · have hk := HM.out.keep ((Chg.refl (fun b => b < w.heap.size + 1 + 1) w3).store (p := ⟨w.heap.size + 1, 0, none⟩) (by show w.heap.size + 1 < w.heap.size + 1 + 1; omega) (.slice A2 H c2)) (fun b h1 h2 h3 => by omega)
    have hz : (w3.setCell ⟨w.heap.size + 1, 0, none⟩ (.slice A2 H c2)).heap.size = w3.heap.size := by simp [World.setCell]
    rw [hz]
    exact hk.low (by omega) (Nat.le_refl _)
  · exact B3.setCell (p := ⟨w.heap.size + 1, 0, none⟩) (by show w.heap.size ≤ w.heap.size + 1; omega) _
end Go.Proofs.Ytkamkjbllmgifaa

namespace Go.Proofs.Ytkamkjbllmgifaa
open Go.RowKit
open Vl

/-- A valley that stays as it is, at a depth. -/
def skipV (st : VS) (d : Int) (v : Nat) : Bool := decide (st.dies v < 0) || decide (d ≤ st.dies v - st.born v)
/-- Some pixels filled up to a number. -/
def incF (l : List Nat) (D : Int) (P : Nat → Int) : Nat → Int := fun q => if q ∈ l then max (P q) D else P q
theorem incF_nil (D : Int) (P : Nat → Int) : incF [] D P = P := by funext q; simp [incF]
theorem incF_app (l : List Nat) (i : Nat) (D : Int) (P : Nat → Int) : incF (l ++ [i]) D P = setF (incF l D P) i (max (incF l D P i) D) := by
  funext q
  unfold incF setF
  by_cases e : q = i
  · subst e
    rw [if_pos (by simp), if_pos rfl]
    by_cases h : q ∈ l
    · rw [if_pos h]; omega
    · rw [if_neg h]
  · rw [if_neg e]
    show (if q ∈ l ++ [i] then max (P q) D else P q) = if q ∈ l then max (P q) D else P q
    by_cases h : q ∈ l
    · rw [if_pos h, if_pos (by simp [h])]
    · rw [if_neg h, if_neg (by simp [h, e])]
/-- The numbers behind the first valleys. -/
def fillTo (st : VS) (d : Int) (O : Nat → Int) : Nat → Nat → Int
  | 0 => O
  | v + 1 => if skipV st d v then fillTo st d O v else fun q => if st.mem v q then max (fillTo st d O v q) (st.dies v) else fillTo st d O v q
theorem fillTo_skip {st : VS} {d : Int} {v : Nat} (O : Nat → Int) (h : skipV st d v = true) : fillTo st d O (v + 1) = fillTo st d O v := by
  rw [fillTo, if_pos h]
theorem fillTo_fill {st : VS} {d : Int} {v : Nat} (O : Nat → Int) (h : skipV st d v = false) {L : List Nat} (hL : ∀ q, q ∈ L ↔ st.mem v q = true) : incF L (st.dies v) (fillTo st d O v) = fillTo st d O (v + 1) := by
  rw [fillTo, if_neg (by rw [h]; simp)]
  funext q
  unfold incF
  by_cases c : st.mem v q = true
  · rw [if_pos ((hL q).2 c), if_pos c]
  · rw [if_neg (fun x => c ((hL q).1 x)), if_neg c]
def fillR (rows : List (List Int)) (d : Int) : List (List Int) := gO (fillTo (vSt rows) d (gF rows (tabW rows)) (vSt rows).n) (tabW rows) rows.length
def fillOk (rows : List (List Int)) (d : Int) : Bool := greyOk rows && inB d 0 100
def fillV (rows : List (List Int)) (d : Int) : List (List Int) := if fillOk rows d then fillR rows d else []
/-- A call has returned a grey picture of memory of its own, and whether it is right. -/
def FilRes (w : World) (R : List (List Int)) (ok : Bool) (e : Ending) (w' : World) : Prop :=
  ∃ A c vs, e = .returned (.tuple #[.agg #[.slice A R.length c], .bool ok]) ∧ MatAt w' w.heap.size w'.heap.size A c vs R ∧ Below w.heap.size w w'
theorem vSt_ok {rows : List (List Int)} : Ok (tabW rows * rows.length) (vSt rows) :=
  fold_ok (ltP_nodup (ordS_pw _ _ _)) (fun _ hi => ⟨((ordS_mem _ _ _ _).1 hi).1, ((ordS_mem _ _ _ _).1 hi).2.1⟩)
theorem fold_top {nb : Nat → List Nat} {num : Nat → Int} {l : List Nat} (h : ∀ i ∈ l, num i ≤ 99) (v : Nat) : (fold nb num l).born v ≤ 99 ∧ (fold nb num l).dies v ≤ 99 := by
  have G : ∀ m : List Nat, (∀ i ∈ m, num i ≤ 99) → ∀ v, (fold nb num m.reverse).born v ≤ 99 ∧ (fold nb num m.reverse).dies v ≤ 99 := by
    intro m
    induction m with
    | nil => intro _ v; simp [fold, VS.start]
    | cons i m ih =>
      intro hp v
      rw [List.reverse_cons, fold_app]
      have ih := ih (fun j hj => hp j (List.mem_cons_of_mem _ hj))
      have hi := hp i List.mem_cons_self
      generalize fold nb num m.reverse = st at *
      unfold stepV
      by_cases e : near st (nb i) = []
      · rw [if_pos e]
        simp only [fin, grow]
        have := ih v
        constructor <;> split <;> omega
      · rw [if_neg e]
        simp only [fin, Vl.part]
        have := ih v
        refine ⟨this.1, ?_⟩
        split
        · exact hi
        · exact this.2
  have := G l.reverse (fun i hi => h i (List.mem_reverse.1 hi)) v
  rwa [List.reverse_reverse] at this
theorem vSt_top (rows : List (List Int)) (v : Nat) : (vSt rows).born v ≤ 99 ∧ (vSt rows).dies v ≤ 99 :=
  fold_top (fun i hi => by have := ((ordS_mem _ _ _ _).1 hi).2.2; omega) v
theorem own_form {w : World} {base n : Nat} {e : TypeId} {size : Nat} {v : Value} {xs : List Value} (h : w.ownsRow base e size v n xs) : ∃ A c, v = .slice A n c ∧ (0 < n → ∃ g, A = some ⟨g, 0, none⟩) := by
  rcases h.2 with ⟨h1, h0⟩ | ⟨g, cap, cur, h1, _⟩
  · subst h0; exact ⟨none, 0, h1, fun h => absurd h (Nat.lt_irrefl _)⟩
  · exact ⟨_, cap, h1, fun _ => ⟨g, rfl⟩⟩
theorem enters_atV : Enters 41 := enters_of Try.func41 (by kernel_rfl) (by kernel_rfl)
set_option maxRecDepth 100000 in
set_option maxHeartbeats 4000000 in
theorem fillVal_any (A : Option Addr) (c : Nat) (rows : List (List Int)) (dp : Int) (w : World) (h : MatRd w A rows) (hn : rows.length ≤ 1000000000) (hr : ∀ i (h : i < rows.length), rows[i].length ≤ 1000000000) :
    Calls Try.prog 12 #[.agg #[.slice A rows.length c], .int .i64 dp] w (FilRes w (fillV rows dp) (fillOk rows dp)) := by
  obtain ⟨wB, hwB⟩ : ∃ wB, (w.alloc (.cells #[.slice A rows.length c] 26)).alloc (.cells #[.slice none 0 0] 26) = wB := ⟨_, rfl⟩
  have B1 : Below w.heap.size w wB := by rw [← hwB]; exact Ext.more (Ext.more (Ext.refl _) _) _
  have G1 : GreyAt wB w.heap.size A c rows := by rw [← hwB]; exact (GreyAt.boxed h _).ext (Ext.more (Ext.refl _) _)
  have T2 : Blk wB (w.heap.size + 1) 26 #[.slice none 0 0] := by
    have := Blk.made (w.alloc (.cells #[.slice A rows.length c] 26)) 26 #[.slice none 0 0]
    rw [hwB] at this; simpa using this
  have VG := Lib.hid (fun V (hV : Below w.heap.size w V) => validGrey_any A c rows V (h.ext hV) hn hr)
  have GX := Lib.hid (fun V (hb : Below wB.heap.size wB V) => G1.ext hb)
  have c0 := G1.cell
  have BAD : Hid (∀ V, Below wB.heap.size wB V → (V.setCell ⟨w.heap.size + 1, 0, none⟩ (.slice none 0 0)).cell? ⟨w.heap.size + 1, 0, none⟩ = some (.slice none 0 0) ∧ V.cell? ⟨w.heap.size + 1, 0, none⟩ = some (.slice none 0 0) ∧ V.frozen? ⟨w.heap.size + 1, 0, none⟩ = false ∧ MatAt (V.setCell ⟨w.heap.size + 1, 0, none⟩ (.slice none 0 0)) w.heap.size (V.setCell ⟨w.heap.size + 1, 0, none⟩ (.slice none 0 0)).heap.size none 0 [] [] ∧ Below w.heap.size w (V.setCell ⟨w.heap.size + 1, 0, none⟩ (.slice none 0 0))) := by
    intro V hb
    have T3 := T2.under hb T2.lt
    have c2 := T3.cell 0
    have cs := (T3.store 0 (.slice none 0 0)).cell 0
    simp at c2 cs
    exact ⟨cs, c2, T3.free 0, MatAt.nil _ _ _ _ _ (World.ownsRow_nil _ _ _ _) (fun a ha => by cases ha), (Ext.then_ B1 hb).setCell (p := ⟨w.heap.size + 1, 0, none⟩) (by show w.heap.size ≤ w.heap.size + 1; omega) _⟩
  cases hg : greyOk rows
  · have F1 : Hid (fillOk rows dp = false) := by rw [Hid, fillOk, hg]; rfl
    have F2 : Hid (fillV rows dp = []) := by rw [Hid, fillV, F1.out]; rfl
    rw [hg] at VG
    rw [F2.out, F1.out]
    clear hg hn hr h G1 F1 F2
    generalize rows.length = H at *
    go_enter Try.func12, Try.ntmps12
    go_wp2_with fail
    try simp only [hwB]
    refine (VG.out _ B1).mono ?_
    rintro e w2 ⟨rfl, hb⟩
    obtain ⟨cs, c2, f2, MN, BN⟩ := BAD.out _ hb
    have MN := Lib.hid (And.intro MN BN)
    go_wp2_with fail
    exact bodyPost_ret (v := .tuple #[.agg #[.slice none 0 0], .bool false]) (by simp [results, Try.results12, go_sem, cs]) rfl ⟨none, 0, [], rfl, MN.out.1, MN.out.2⟩
  rw [hg] at VG
  cases hd : inB dp 0 100
  · have F1 : Hid (fillOk rows dp = false) := by rw [Hid, fillOk, hg, hd]; rfl
    have F2 : Hid (fillV rows dp = []) := by rw [Hid, fillV, F1.out]; rfl
    have IN := Lib.hid (fun V => in_any dp 0 100 V)
    rw [hd] at IN
    rw [F2.out, F1.out]
    clear hg hn hr h G1 F1 F2 hd
    generalize rows.length = H at *
    go_enter Try.func12, Try.ntmps12
    go_wp2_with fail
    try simp only [hwB]
    refine (VG.out _ B1).mono ?_
    rintro e w2 ⟨rfl, hb⟩
    obtain ⟨cs, c2, f2, MN, BN⟩ := BAD.out _ hb
    have MN := Lib.hid (And.intro MN BN)
    go_wp2_with fail
    refine (IN.out _).mono ?_
    rintro e w3 ⟨rfl, rfl⟩
    go_wp2_with fail
    exact bodyPost_ret (v := .tuple #[.agg #[.slice none 0 0], .bool false]) (by simp [results, Try.results12, go_sem, cs]) rfl ⟨none, 0, [], rfl, MN.out.1, MN.out.2⟩
  have F1 : Hid (fillOk rows dp = true) := by rw [Hid, fillOk, hg, hd]; rfl
  obtain ⟨W, hW⟩ : ∃ W, tabW rows = W := ⟨_, rfl⟩
  obtain ⟨H, hH⟩ : ∃ H, rows.length = H := ⟨_, rfl⟩
  have F2 : Hid (fillV rows dp = gO (fillTo (vSt rows) dp (gF rows W) (vSt rows).n) W H) := by rw [Hid, fillV, F1.out, fillR, hW, hH]; rfl
  have IN := Lib.hid (fun V => in_any dp 0 100 V)
  rw [hd] at IN
  rw [F2.out, F1.out]
  obtain ⟨s1, s2, s3, s4⟩ := tab_sizes hg
  have hrow := tab_row hg
  have RM := Lib.hid (fun V (hV : GreyAt V w.heap.size A c rows) => remadeF_any w.heap.size A c rows 41 w.heap.size (gF rows W) W H V hV hW hH (by omega) (by omega) (by omega) enters_atV
      (fun x y hx hy wr hb => g_at (hV.ext hb) (fun y hy => by rw [hrow y hy, hW]) hx (by omega)))
  have VA := Lib.hid (fun V (hV : GreyAt V w.heap.size A c rows) => valleys_any w.heap.size A c rows W H V hV hg hW hH)
  have EV : Hid (fold (nbN W H) (gF rows W) (ordS (gF rows W) (W * H) 100) = vSt rows) := by rw [Hid, ← hW, ← hH]; rfl
  rw [EV.out] at VA
  have OKV := Lib.hid (vSt_ok (rows := rows))
  rw [hW, hH] at OKV
  have BD := Lib.hid (vSt_bd hg)
  have GB : Hid (∀ i, i < W * H → 0 ≤ gF rows W i ∧ gF rows W i ≤ 99) := by rw [← hH]; exact gF_bd hg hW
  have NB := vSt_n hg
  have TOP := Lib.hid (vSt_top rows)
  have hW1 : 0 < W := by omega
  have hH1 : 0 < H := by omega
  have hWl : W ≤ 16 := by omega
  have hHl : H ≤ 16 := by omega
  have dB : 0 ≤ dp ∧ dp ≤ 100 := by
    simp only [inB, Bool.and_eq_true, decide_eq_true_eq] at hd
    exact hd
  have cH := c0
  rw [hH] at cH
  have HEN := Lib.hid hH
  have GLn := Lib.hid (fun O => gO_length O W H)
  clear hg hd hn hr h G1 F1 F2 hrow hW hH s1 s2 s3 s4 EV c0
  have c0 := cH
  rw [HEN.out] at hwB VG
  clear cH
  generalize vSt rows = st at *
  generalize gF rows W = G at *
  rw [HEN.out]
  go_enter Try.func12, Try.ntmps12
  have hmf : ∀ (fn : Fn) (first cap : Array Value) (w : World), (Instr.makeFunc fn first cap).run Try.prog w = .ok (.func fn first cap) w := fun _ _ _ _ => rfl
  go_wp2_with fail
  try simp only [hwB]
  refine (VG.out _ B1).mono ?_
  rintro e w2 ⟨rfl, hb2⟩
  go_wp2_with fail
  refine (IN.out _).mono ?_
  rintro e w2' ⟨rfl, rfl⟩
  go_wp2_with fail
  refine (RM.out _ (GX.out _ hb2)).mono ?_
  rintro e w3 ⟨A3, c3, vs3, rfl, hm3, hb3⟩
  have I0 : HeiInv w2 w2.heap.size w3.heap.size A3 c3 vs3 W H G (w3.alloc (.cells #[.slice A3 H c3] 26)) := ⟨Blk.made _ _ _, hm3.ext (Ext.more (Ext.refl _) _), Ext.more hb3 _⟩
  have hz23 := hb3.size
  have hz2 := hb2.size
  have lB := T2.lt
  clear hm3 RM
  go_wp2_with fail
  obtain ⟨po, hpo⟩ : ∃ po, w3.heap.size = po := ⟨_, rfl⟩
  rw [hpo] at I0 hz23
  simp only [hpo]
  have HPO : Hid ((w3.alloc (.cells #[.slice A3 H c3] 26)).heap.size = po + 1) := by rw [Hid, World.size_alloc, hpo]
  have EXA := Lib.hid (Ext.then_ hb2 (Ext.more hb3 (.cells #[.slice A3 H c3] 26)))
  clear hb3 hpo
  generalize w3.alloc (.cells #[.slice A3 H c3] 26) = wA at *
  refine (VA.out _ (GX.out _ EXA.out)).mono ?_
  rintro e w4 ⟨go, gb, RB, MO, MR, d, og, oc, B, P, Lp, rfl, hI, hb4⟩
  obtain ⟨lo, hlo⟩ : ∃ lo, w2.heap.size = lo := ⟨_, rfl⟩
  rw [hlo] at I0 hz23
  have I4 := I0.step hb4 hz23
  have z4 := hb4.size
  rw [HPO.out] at z4 hI
  obtain ⟨g0, _, _, rfl, -, -, -, -, -⟩ := I0.putW hW1 hH1 hz23
  clear I0 hb4
  obtain ⟨m, hm⟩ : ∃ m, st.n = m := ⟨_, rfl⟩
  have mB : m ≤ 256 := by rw [← hm]; exact NB
  have IVW : Hid (∀ V, Chg (fun b => b ≤ po ∨ w4.heap.size ≤ b) w4 V → ∀ v, v < m → V.cell? ⟨og, v, none⟩ = some (.pointer (some ⟨B v, 0, none⟩)) ∧ V.cell? ⟨B v, 0, none⟩ = some (.int .i64 (st.born v)) ∧ V.cell? ⟨B v, 2, none⟩ = some (.int .i64 (st.dies v)) ∧ V.cell? ⟨B v, 3, none⟩ = some (P v) ∧ og < V.heap.size ∧ B v < V.heap.size ∧ V.ownsRow (po + 1) 39 2 (P v) (Lp v).length (spL ((Lp v).map (spt W)))) := fun V hV v hv => by
    rw [← hm] at hv
    have I2 := hI.chg hV (fun b hb hb2 => by have h1 := hI.lt b hb2; have h2 : b ≤ po ∨ w4.heap.size ≤ b := hb; omega)
    have b1 := I2.val v hv
    have c0 := b1.cell 0
    have c2 := b1.cell 2
    have c3 := b1.cell 3
    have c4 := I2.out.cellAt v (by omega)
    simp at c0 c2 c3
    rw [List.getElem?_map, List.getElem?_range hv] at c4
    exact ⟨c4, c0, c2, c3, (I2.out.lt og rfl).2, b1.lt, I2.set v hv⟩
  have MEM : Hid (∀ v, v < m → (∀ q, q ∈ Lp v ↔ st.mem v q = true) ∧ (Lp v).length ≤ 256 ∧ ∀ q ∈ Lp v, q < W * H) := fun v hv => by
    rw [← hm] at hv
    have h1 := hI.mem v hv
    have h2 : ∀ q ∈ Lp v, q < W * H := fun q hq => OKV.out.lt v q hv ((h1.2 q).1 hq)
    exact ⟨h1.2, Nat.le_trans (nodup_le h1.1 h2) (Nat.le_trans (Nat.mul_le_mul hWl hHl) (by decide)), h2⟩
  have FS := Lib.hid (fun (k : Nat) (e : skipV st dp k = true) => fillTo_skip G e)
  have FF := Lib.hid (fun (k : Nat) (e : skipV st dp k = false) (hk : k < m) => fillTo_fill G e (MEM.out k hk).1)
  have IA := Lib.hid (fun (l : List Nat) (i : Nat) (D : Int) (Q : Nat → Int) => incF_app l i D Q)
  have F0 : Hid (fillTo st dp G 0 = G) := rfl
  have C4 := Chg.refl (fun b => b ≤ po ∨ w4.heap.size ≤ b) w4
  have HM := Lib.hid hm
  rw [hm]
  rw [← F0.out] at I4
  clear hI hm
  go_wp2_with fail
  go_loopw [24] (fun kv wr => ∃ k : Nat, k ≤ m ∧ kv = .int .i64 k ∧ HeiInv w2 lo po (some ⟨g0, 0, none⟩) c3 vs3 W H (fillTo st dp G k) wr ∧ Chg (fun b => b ≤ po ∨ w4.heap.size ≤ b) w4 wr) (fun kv _ => m - (intOf kv).toNat)
  case atStart => exact ⟨0, Nat.zero_le _, rfl, I4, C4⟩
  case round =>
    obtain ⟨k, hk, rfl, hI, hC⟩ := hrel
    clear I4 C4
    by_cases hlt : k < m
    · obtain ⟨e1, e2, e3, e4, l1, l2, rw1⟩ := IVW.out wr hC k hlt
      obtain ⟨Ak, ck, ePk, hAk⟩ := own_form rw1
      rw [ePk] at e4
      have TP := TOP.out k
      obtain ⟨-, b0, bd⟩ := BD.out k (by rw [HM.out]; exact hlt)
      obtain ⟨mem, lenB, inB'⟩ := MEM.out k hlt
      have i0 : (0 : Int) ≤ (k : Int) := by omega
      have i1 : (k : Int) < (m : Int) := by omega
      have wk : IntKind.i64.wrap ((k : Int) + 1) = ((k + 1 : Nat) : Int) := by rw [IntWalk.i64_in _ (by omega)]; simp
      have FS1 := Lib.hid (FS.out k)
      have FF1 := Lib.hid (fun e => FF.out k e hlt)
      obtain ⟨sk, hsk⟩ : ∃ sk, skipV st dp k = sk := ⟨_, rfl⟩
      have SK : Hid ((decide (st.dies k < 0) || decide (dp ≤ st.dies k - st.born k)) = sk) := hsk
      rw [hsk] at FS1 FF1
      obtain ⟨Q, hQ⟩ : ∃ Q, fillTo st dp G k = Q := ⟨_, rfl⟩
      rw [hQ] at hI FS1 FF1
      obtain ⟨dd, hdd⟩ : ∃ dd, st.dies k = dd := ⟨_, rfl⟩
      obtain ⟨bb, hbb⟩ : ∃ bb, st.born k = bb := ⟨_, rfl⟩
      have HDD := Lib.hid hdd
      rw [hdd] at e3 bd SK TP FF1
      rw [hbb] at e2 b0 bd SK TP
      have wdb : IntKind.i64.wrap (dd - bb) = dd - bb := IntWalk.i64_in _ (by omega)
      have HI := Lib.hid hI
      have HC := Lib.hid hC
      have MB := Lib.hid (And.intro mem inB')
      have RW1 := Lib.hid rw1
      clear hI hC hdd hbb mem inB' rw1 hQ hsk
      go_upto_region 7 with fail
      go_cut [45] (fun c wx => c = .bool sk ∧ Below wr.heap.size wr wx)
      case first =>
        by_cases h0 : dd < 0
        · have t1 : decide (dd < 0) = true := decide_eq_true h0
          have RS : Hid (sk = true) := by rw [Hid, ← SK.out, t1]; rfl
          clear bd h0 TP
          refine wp_region_held_quiet (fun U => Below wr.heap.size wr U) (by kernel_rfl) (by kernel_rfl) (Ext.refl _).drew ?_
          have ne : Nonempty (HeldW (fun U => Below wr.heap.size wr U)) := ⟨⟨wr, Ext.refl _⟩⟩
          have v0 : ∀ i : HeldW (fun U => Below wr.heap.size wr U), i.w.cell? ⟨B k, 0, none⟩ = _ := fun i => (i.h.cell (p := ⟨B k, 0, none⟩) l2).trans e2
          have v1 : ∀ i : HeldW (fun U => Below wr.heap.size wr U), i.w.cell? ⟨B k, 2, none⟩ = _ := fun i => (i.h.cell (p := ⟨B k, 2, none⟩) l2).trans e3
          repeat (go_big_quiet_step (fail))
          refine wpQuiet_nil ?_
          intro w5 hw'
          obtain ⟨⟨_, hb5⟩, rfl⟩ := hw'
          clear ne v0 v1
          have HB5 := Lib.hid hb5
          clear hb5
          go_wp2_with fail
          go_meet
          exact ⟨by rw [RS.out], HB5.out⟩
        · have t1 : decide (dd < 0) = false := decide_eq_false h0
          obtain ⟨r, hr⟩ : ∃ r, decide (dp ≤ dd - bb) = r := ⟨_, rfl⟩
          have RS : Hid (sk = r) := by rw [Hid, ← SK.out, t1, hr]; rfl
          clear bd h0 TP
          refine wp_region_held_quiet (fun U => Below wr.heap.size wr U) (by kernel_rfl) (by kernel_rfl) (Ext.refl _).drew ?_
          have ne : Nonempty (HeldW (fun U => Below wr.heap.size wr U)) := ⟨⟨wr, Ext.refl _⟩⟩
          have v0 : ∀ i : HeldW (fun U => Below wr.heap.size wr U), i.w.cell? ⟨B k, 0, none⟩ = _ := fun i => (i.h.cell (p := ⟨B k, 0, none⟩) l2).trans e2
          have v1 : ∀ i : HeldW (fun U => Below wr.heap.size wr U), i.w.cell? ⟨B k, 2, none⟩ = _ := fun i => (i.h.cell (p := ⟨B k, 2, none⟩) l2).trans e3
          repeat (go_big_quiet_step (fail))
          refine wpQuiet_nil ?_
          intro w5 hw'
          obtain ⟨⟨_, hb5⟩, rfl⟩ := hw'
          clear ne v0 v1
          have HB5 := Lib.hid hb5
          clear hb5
          go_wp2_with fail
          go_meet
          exact ⟨by rw [RS.out], HB5.out⟩
      case rest =>
        obtain ⟨rfl, hb4⟩ := hcut
        have hIc := HI.out.step hb4 hz23
        have hCc : Chg (fun b => b ≤ po ∨ w4.heap.size ≤ b) w4 wc := HC.out.ext hb4
        have HH := Lib.hid (And.intro hIc hCc)
        have e4' := (hb4.cell (p := ⟨B k, 3, none⟩) l2).trans e4
        obtain ⟨f1, f2, f3, f4, f5, f6, f7⟩ := IVW.out wc hCc k hlt
        clear hIc hCc hb4 e1 e2 e3 e4 l1 HI HC RW1 f1 f2 f3 f4 f5 f6 f7
        cases sk with
        | true =>
          have FS2 := Lib.hid (FS1.out rfl)
          clear FS1 FF1 SK hAk
          go_wp2_with fail
          exact ⟨⟨k + 1, by omega, by go_num, by rw [FS2.out]; exact HH.out.1, HH.out.2⟩, by simp [intOf]; omega⟩
        | false =>
          have FF2 := Lib.hid (FF1.out rfl)
          clear FS1 FF1 SK
          obtain ⟨n, hn⟩ : ∃ n, (Lp k).length = n := ⟨_, rfl⟩
          rw [hn] at e4' hAk lenB
          have HNL := Lib.hid hn
          have HAK := Lib.hid hAk
          have EPK := Lib.hid ePk
          clear hn hAk ePk
          go_wp2_with fail
          go_loopw [51] (fun jv wx => ∃ j : Nat, j ≤ n ∧ jv = .int .i64 j ∧ HeiInv w2 lo po (some ⟨g0, 0, none⟩) c3 vs3 W H (incF ((Lp k).take j) dd Q) wx ∧ Chg (fun b => b ≤ po ∨ w4.heap.size ≤ b) w4 wx) (fun jv _ => n - (intOf jv).toNat)
          case atStart => exact ⟨0, Nat.zero_le _, rfl, by rw [List.take_zero, incF_nil]; exact HH.out.1, HH.out.2⟩
          case round =>
            obtain ⟨j, hj, rfl, hIj, hCj⟩ := hrel
            clear HH e4'
            by_cases hjl : j < n
            · obtain ⟨gk, rfl⟩ := HAK.out (by omega)
              obtain ⟨-, -, f3, -, -, f6, f7⟩ := IVW.out wr hCj k hlt
              rw [EPK.out, HNL.out] at f7
              rw [HDD.out] at f3
              have y1 := f7.cellAt (j * 2) (by omega)
              have y2 := f7.cellAt (j * 2 + 1) (by omega)
              rw [spL_fst] at y1
              rw [spL_snd] at y2
              rw [List.getElem?_map, List.getElem?_eq_getElem (by rw [HNL.out]; exact hjl)] at y1 y2
              simp only [Option.map_some] at y1 y2
              have zb := MB.out.2 _ (List.getElem_mem (l := Lp k) (n := j) (by rw [HNL.out]; exact hjl))
              have TK : Hid ((Lp k).take (j + 1) = (Lp k).take j ++ [(Lp k)[j]'(by rw [HNL.out]; exact hjl)]) := List.take_succ_eq_append_getElem (by rw [HNL.out]; exact hjl)
              generalize (Lp k)[j]'(by rw [HNL.out]; exact hjl) = z at *
              have hx : z % W < W := Nat.mod_lt _ hW1
              have hy : z / W < H := pl_row zb
              have ZE : Hid (z / W * W + z % W = z) := (pl_eq z hW1).1.symm
              have gk1 := (f7.lt gk rfl).2
              simp only [spt] at y1 y2
              obtain ⟨x, ex⟩ : ∃ x, z % W = x := ⟨_, rfl⟩
              obtain ⟨y, ey⟩ : ∃ y, z / W = y := ⟨_, rfl⟩
              rw [ex] at y1 hx ZE
              rw [ey] at y2 hy ZE
              have IS := hIj.step (Ext.more (Ext.refl wr) (.cells #[.int .i64 x, .int .i64 y] 39)) hz23
              have CS := hCj.ext (Ext.more (Ext.refl wr) (.cells #[.int .i64 x, .int .i64 y] 39))
              have D3 := ((Ext.more (Ext.refl wr) (.cells #[.int .i64 x, .int .i64 y] 39)).cell (p := ⟨B k, 2, none⟩) f6).trans f3
              have TS := Blk.made wr 39 #[.int .i64 x, .int .i64 y]
              have f6' : B k < (wr.alloc (.cells #[.int .i64 x, .int .i64 y] 39)).heap.size := by rw [World.size_alloc]; omega
              have j0 : (0 : Int) ≤ (j : Int) := by omega
              have j1 : (j : Int) < (n : Int) := by omega
              have wj : IntKind.i64.wrap ((j : Int) + 1) = ((j + 1 : Nat) : Int) := by rw [IntWalk.i64_in _ (by omega)]; simp
              obtain ⟨bs, hbs⟩ : ∃ bs, wr.heap.size = bs := ⟨_, rfl⟩
              rw [hbs] at TS
              have HIS := Lib.hid (And.intro IS CS)
              clear f3 f7 f6 ex ey zb hIj hCj IS CS
              go_upto_region 11 with fail
              try simp only [hbs]
              clear y1 y2 gk1 hbs
              generalize wr.alloc (.cells #[.int .i64 x, .int .i64 y] 39) = wS at *
              have IS := HIS.out.1
              obtain ⟨g', gr', cy', e, p2, p4, p5, p6, pW⟩ := IS.putW hx hy hz23
              simp only [Option.some.injEq, Addr.mk.injEq, and_true] at e
              subst e
              have z0 := IS.box.cell 0
              have u2 := TS.cell 0
              have u3 := TS.cell 1
              simp at z0 u2 u3
              have l0 := IS.box.lt
              have l1 := TS.lt
              have x0 : (0 : Int) ≤ (x : Int) := by omega
              have x1 : (x : Int) < (W : Int) := by omega
              have y0 : (0 : Int) ≤ (y : Int) := by omega
              have y1 : (y : Int) < (H : Int) := by omega
              have AT := Lib.hid (fun V (hV : Below wS.heap.size wS V) => hei_at (IS.step hV hz23) hx hy)
              refine wp_region_held_tail 16 (fun V => Below wS.heap.size wS V) (by kernel_rfl) (by kernel_rfl) (Ext.refl _).drew ?_
              simp only [List.take_succ_cons, List.take_zero, List.drop_succ_cons, List.drop_zero]
              have ne : Nonempty (HeldW (fun V => Below wS.heap.size wS V)) := ⟨⟨wS, Ext.refl _⟩⟩
              have k0 : ∀ i : HeldW (fun V => Below wS.heap.size wS V), i.w.cell? ⟨po, 0, none⟩ = some (.slice (some ⟨g0, 0, none⟩) H c3) := fun i => (i.h.cell (p := ⟨po, 0, none⟩) l0).trans z0
              have k1 : ∀ i : HeldW (fun V => Below wS.heap.size wS V), i.w.cell? ⟨bs, 0, none⟩ = some (.int .i64 x) := fun i => (i.h.cell (p := ⟨bs, 0, none⟩) l1).trans u2
              have k2 : ∀ i : HeldW (fun V => Below wS.heap.size wS V), i.w.cell? ⟨bs, 1, none⟩ = some (.int .i64 y) := fun i => (i.h.cell (p := ⟨bs, 1, none⟩) l1).trans u3
              have k3 : ∀ i : HeldW (fun V => Below wS.heap.size wS V), i.w.cell? ⟨g0, y, none⟩ = some (.slice (some ⟨gr', 0, none⟩) W cy') := fun i => (pW i.w i.h).1
              have k4 : ∀ i : HeldW (fun V => Below wS.heap.size wS V), i.w.cell? ⟨B k, 2, none⟩ = some (.int .i64 dd) := fun i => (i.h.cell (p := ⟨B k, 2, none⟩) f6').trans D3
              repeat (go_big_quiet_step ((go_at_call 41; exact Calls.above_of _ (AT.out _ (HeldW.h _)))))
              refine wpQuiet_nil ?_
              intro wa hw'
              obtain ⟨⟨_, hba⟩, rfl⟩ := hw'
              clear ne k0 k1 k2 k3 k4
              obtain ⟨q1, q2, q3, q4⟩ := pW wa hba
              have IX := q4 (max (incF ((Lp k).take j) dd Q (y * W + x)) dd)
              rw [ZE.out, ← IA.out, ← TK.out] at IX
              have CX := (HIS.out.2.ext hba).store (p := ⟨gr', x, none⟩) (.inl (Nat.le_of_lt p5)) (.int .i64 (max (incF ((Lp k).take j) dd Q z) dd))
              have HX := Lib.hid (And.intro IX CX)
              rw [ZE.out]
              clear IX CX IS hba pW q4 D3 TS HIS AT
              go_wp2_with fail
              exact ⟨⟨j + 1, by omega, by go_num, HX.out.1, HX.out.2⟩, by simp [intOf]; omega⟩
            · obtain rfl : n = j := by omega
              have HJ := Lib.hid (And.intro hIj hCj)
              have TT : Hid ((Lp k).take n = Lp k) := List.take_of_length_le (by rw [HNL.out]; omega)
              clear hIj hCj
              go_wp2_with fail
              exact ⟨⟨k + 1, by omega, by go_num, by rw [← FF2.out, ← TT.out]; exact HJ.out.1, HJ.out.2⟩, by simp [intOf]; omega⟩
    · obtain rfl : m = k := by omega
      have bW : Below wB.heap.size wB wr := Ext.then_ hb2 (by rw [hlo]; exact hI.ext)
      have T3 := T2.under bW T2.lt
      have z0 := hI.box.cell 0
      have c2 := T3.cell 0
      have f2 := T3.free 0
      have cs := (T3.store 0 (.slice (some ⟨g0, 0, none⟩) H c3)).cell 0
      simp at z0 c2 cs
      have l0 := hI.box.lt
      have HF := Lib.hid (And.intro hI bW)
      clear hI hC bW
      go_wp2_with fail
      refine bodyPost_ret (v := .tuple #[.agg #[.slice (some ⟨g0, 0, none⟩) H c3], .bool true]) (by simp [results, Try.results12, go_sem, cs]) rfl ?_
      refine ⟨some ⟨g0, 0, none⟩, c3, vs3, by rw [GLn.out], ?_, ?_⟩
      · have hk := HF.out.1.mat.keep ((Chg.refl (fun b => b < lo) wr).store (p := ⟨w.heap.size + 1, 0, none⟩) (by show w.heap.size + 1 < lo; omega) (.slice (some ⟨g0, 0, none⟩) H c3)) (fun b h1 h2 h3 => by omega)
        have hz : (wr.setCell ⟨w.heap.size + 1, 0, none⟩ (.slice (some ⟨g0, 0, none⟩) H c3)).heap.size = wr.heap.size := by simp [World.setCell]
        rw [hz, HM.out]
        exact hk.low (by omega) (by omega)
      · exact (Ext.then_ B1 HF.out.2).setCell (p := ⟨w.heap.size + 1, 0, none⟩) (by show w.heap.size ≤ w.heap.size + 1; omega) _
end Go.Proofs.Ytkamkjbllmgifaa
