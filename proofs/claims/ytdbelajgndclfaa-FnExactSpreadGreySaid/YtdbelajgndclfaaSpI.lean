/- The program's SpreadGrey. -/
import Derived.Test.YtdbelajgndclfaaSpE
import Derived.Test.YtdbelajgndclfaaRemF
import Derived.Laws.EntriesVeiled
import Derived.Deep.RegionLaw
namespace Go.Proofs.Ytdbelajgndclfaa
open Go.RowKit

/-- A call has returned a picture, a number and yes or no. -/
def SpRes (w : World) (rows : List ByteArray) (z : Int) (b : Bool) (e : Ending) (w' : World) : Prop :=
  ∃ A c, e = .returned (.tuple #[.agg #[.slice A rows.length c], .int .i64 z, .bool b]) ∧ w'.ownsRow w.heap.size 9 1 (.slice A rows.length c) rows.length (strs rows) ∧ Below w.heap.size w w'
/-- The pixels and what is lost. -/
def spdL (rows : List (List Int)) : List Bool := (List.range (tabW rows * rows.length)).map (spdB (tabW rows) rows.length (gF rows (tabW rows)))
def spdZ (rows : List (List Int)) : Int := (spdTo (tabW rows) rows.length (gF rows (tabW rows)) (tabW rows * rows.length)).2
theorem enters_at : Enters 95 := enters_of Try.func95 (by kernel_rfl) (by kernel_rfl)

theorem spd_start {w0 wA : World} {lo po : Nat} {A : Option Addr} {c : Nat} {vs : List Value} {W H : Nat} {G : Nat → Int} (z : wA.heap.size = po + 3) (hI : HeiInv w0 lo po A c vs W H G wA) (hlo : lo ≤ po)
    (hL : Blk wA (po + 1) 2 #[.int .i64 0]) (hF : Blk wA (po + 2) 116 #[.func (.func 96) #[] #[.pointer (some ⟨po, 0, none⟩), .pointer (some ⟨po + 1, 0, none⟩)]]) :
    SpdS w0 lo po A c vs W H (G, 0) (List.replicate (W * H) false) (((wA.alloc (.cells (boolC (List.replicate (W * H) false)) 4)).alloc (.cells #[.int .i64 W, .int .i64 H, .slice (some ⟨po + 3, 0, none⟩) (W * H) (W * H)] 108)).alloc (.cells #[.pointer (some ⟨po + 3 + 1, 0, none⟩)] 78)) := by
  have B : Below wA.heap.size wA (((wA.alloc (.cells (boolC (List.replicate (W * H) false)) 4)).alloc (.cells #[.int .i64 W, .int .i64 H, .slice (some ⟨po + 3, 0, none⟩) (W * H) (W * H)] 108)).alloc (.cells #[.pointer (some ⟨po + 3 + 1, 0, none⟩)] 78)) := Ext.more (Ext.more (Ext.more (Ext.refl _) _) _) _
  have hi := blank_img wA W H
  rw [z] at hi
  refine ⟨hI.step B hlo, hL.under B hL.lt, hF.under B hF.lt, hi.ext (Ext.more (Ext.refl _) _), ?_⟩
  have := Blk.made ((wA.alloc (.cells (boolC (List.replicate (W * H) false)) 4)).alloc (.cells #[.int .i64 W, .int .i64 H, .slice (some ⟨po + 3, 0, none⟩) (W * H) (W * H)] 108)) 78 #[.pointer (some ⟨po + 3 + 1, 0, none⟩)]
  simpa [z] using this

set_option maxRecDepth 100000 in
set_option maxHeartbeats 2000000 in
theorem spreadGrey_any (A : Option Addr) (c : Nat) (rows : List (List Int)) (w : World) (h : MatRd w A rows) (hn : rows.length ≤ 1000000000) (hr : ∀ i (h : i < rows.length), rows[i].length ≤ 1000000000) :
    Calls Try.prog 40 #[.agg #[.slice A rows.length c]] w (SpRes w (if greyOk rows then rowsTo (spdL rows) (tabW rows) rows.length else []) (if greyOk rows then spdZ rows else 0) (greyOk rows)) := by
  have B1 : Below w.heap.size w ((w.alloc (.cells #[.slice A rows.length c] 39)).alloc (.cells #[.slice none 0 0] 26)) := Ext.more (Ext.more (Ext.refl _) _) _
  have G1 : GreyAt ((w.alloc (.cells #[.slice A rows.length c] 39)).alloc (.cells #[.slice none 0 0] 26)) w.heap.size A c rows := (GreyAt.boxed h _).ext (Ext.more (Ext.refl _) _)
  have T1 : Blk ((w.alloc (.cells #[.slice A rows.length c] 39)).alloc (.cells #[.slice none 0 0] 26)) (w.heap.size + 1) 26 #[.slice none 0 0] := by
    have := Blk.made (w.alloc (.cells #[.slice A rows.length c] 39)) 26 #[.slice none 0 0]
    simpa using this
  have VG := Lib.hid (fun V (hV : MatRd V A rows) => validGrey_any A c rows V hV hn hr)
  have hmf : ∀ (fn : Fn) (first cap : Array Value) (w : World), (Instr.makeFunc fn first cap).run Try.prog w = .ok (.func fn first cap) w := fun _ _ _ _ => rfl
  have HG := Lib.hid G1
  cases hg : greyOk rows
  · rw [hg] at VG
    clear hg G1 h hr
    show Calls _ _ _ _ (SpRes w [] 0 false)
    go_enter Try.func40, Try.ntmps40
    go_wp2_with fail
    refine (VG.out _ HG.out.rd).mono ?_
    rintro e w1 ⟨rfl, hb⟩
    have T2 := T1.under hb T1.lt
    have f0 := T2.free 0
    have c0 := T2.cell 0
    have cs := (T2.store 0 (.slice none 0 0)).cell 0
    simp at c0 cs
    go_wp2_with fail
    refine bodyPost_ret (v := .tuple #[.agg #[.slice none 0 0], .int .i64 0, .bool false]) (by simp [results, Try.results40, go_sem, cs]) rfl ⟨none, 0, rfl, World.ownsRow_nil _ _ _ _, ?_⟩
    exact (Ext.then_ B1 hb).setCell (p := ⟨w.heap.size + 1, 0, none⟩) (by show w.heap.size ≤ w.heap.size + 1; omega) _
  · rw [hg] at VG
    obtain ⟨s1, s2, s3, s4⟩ := tab_sizes hg
    have hrow := tab_row hg
    have GB := Lib.hid (gF_bd hg rfl)
    have SZ := Lib.hid (fun V (hV : GreyAt V w.heap.size A c rows) => sizes_any w.heap.size A c rows V hV s1)
    have RM := Lib.hid (fun V (hV : GreyAt V w.heap.size A c rows) => remadeF_any w.heap.size A c rows 95 w.heap.size (gF rows (tabW rows)) (tabW rows) rows.length V hV rfl rfl s1 (by omega) (by omega) enters_at
      (fun x y hx hy wr hb => g_at (hV.ext hb) (fun y hy => hrow y hy) hx hy))
    clear hg G1 h hr hrow
    show Calls _ _ _ _ (SpRes w (rowsTo (spdL rows) (tabW rows) rows.length) (spdZ rows) true)
    have hlen : (rowsTo (spdL rows) (tabW rows) rows.length).length = rows.length := rowsTo_length _ _ _
    have E : Hid (spdL rows = (List.range (tabW rows * rows.length)).map (spdB (tabW rows) rows.length (gF rows (tabW rows)))) := rfl
    have E2 : Hid (spdZ rows = (spdTo (tabW rows) rows.length (gF rows (tabW rows)) (tabW rows * rows.length)).2) := rfl
    have HL := Lib.hid hlen
    clear hlen
    have hW : tabW rows ≤ 16 := by omega
    have hH : rows.length ≤ 16 := by omega
    generalize spdL rows = RL at *
    generalize spdZ rows = RZ at *
    generalize gF rows (tabW rows) = G at *
    generalize tabW rows = W at *
    generalize rows.length = H at *
    go_enter Try.func40, Try.ntmps40
    go_wp2_with fail
    refine (VG.out _ HG.out.rd).mono ?_
    rintro e w1 ⟨rfl, hb⟩
    have T2 := T1.under hb T1.lt
    have HG2 := Lib.hid (HG.out.ext hb)
    have B2 := Ext.then_ B1 hb
    clear hb HG T1 B1
    go_wp2_with fail
    refine (SZ.out _ HG2.out).mono ?_
    rintro e w2 ⟨rfl, k, rfl⟩
    have HG3 := Lib.hid (HG2.out.drewN k)
    have T3 : Blk (w1.drewN k) (w.heap.size + 1) 26 #[.slice none 0 0] := T2
    have B3 := Ext.drawN B2 k
    clear HG2 T2 B2 SZ VG
    generalize w1.drewN k = w2 at *
    go_wp2_with fail
    refine (RM.out _ HG3.out).mono ?_
    rintro e w3 ⟨A3, c3, vs, rfl, hm, hb3⟩
    have hz3 := B3.size
    have HM := Lib.hid hm
    have hz4 := hb3.size
    have t3l := T3.lt
    clear hm RM
    go_wp2_with fail
    obtain ⟨po, hpo⟩ : ∃ po, w3.heap.size = po := ⟨_, rfl⟩
    obtain ⟨lo, hlo⟩ : ∃ lo, w2.heap.size = lo := ⟨_, rfl⟩
    have I3 : HeiInv w2 w2.heap.size w3.heap.size A3 c3 vs W H G (((w3.alloc (.cells #[.slice A3 H c3] 39)).alloc (.cells #[.int .i64 0] 2)).alloc (.cells #[.func (.func 96) #[] #[.pointer (some ⟨w3.heap.size, 0, none⟩), .pointer (some ⟨w3.heap.size + 1, 0, none⟩)]] 116)) :=
      ⟨((Blk.made _ _ _).more _).more _, HM.out.ext (Ext.more (Ext.more (Ext.more (Ext.refl _) _) _) _), Ext.more (Ext.more (Ext.more hb3 _) _) _⟩
    have L3 : Blk (((w3.alloc (.cells #[.slice A3 H c3] 39)).alloc (.cells #[.int .i64 0] 2)).alloc (.cells #[.func (.func 96) #[] #[.pointer (some ⟨w3.heap.size, 0, none⟩), .pointer (some ⟨w3.heap.size + 1, 0, none⟩)]] 116)) (w3.heap.size + 1) 2 #[.int .i64 0] := by
      have := (Blk.made (w3.alloc (.cells #[.slice A3 H c3] 39)) 2 #[.int .i64 0]).more (.cells #[.func (.func 96) #[] #[.pointer (some ⟨w3.heap.size, 0, none⟩), .pointer (some ⟨w3.heap.size + 1, 0, none⟩)]] 116)
      simpa using this
    have F3 : Blk (((w3.alloc (.cells #[.slice A3 H c3] 39)).alloc (.cells #[.int .i64 0] 2)).alloc (.cells #[.func (.func 96) #[] #[.pointer (some ⟨w3.heap.size, 0, none⟩), .pointer (some ⟨w3.heap.size + 1, 0, none⟩)]] 116)) (w3.heap.size + 2) 116 #[.func (.func 96) #[] #[.pointer (some ⟨w3.heap.size, 0, none⟩), .pointer (some ⟨w3.heap.size + 1, 0, none⟩)]] := by
      have := Blk.made ((w3.alloc (.cells #[.slice A3 H c3] 39)).alloc (.cells #[.int .i64 0] 2)) 116 #[.func (.func 96) #[] #[.pointer (some ⟨w3.heap.size, 0, none⟩), .pointer (some ⟨w3.heap.size + 1, 0, none⟩)]]
      simpa using this
    have zA : (((w3.alloc (.cells #[.slice A3 H c3] 39)).alloc (.cells #[.int .i64 0] 2)).alloc (.cells #[.func (.func 96) #[] #[.pointer (some ⟨w3.heap.size, 0, none⟩), .pointer (some ⟨w3.heap.size + 1, 0, none⟩)]] 116)).heap.size = w3.heap.size + 3 := by simp
    generalize ((w3.alloc (.cells #[.slice A3 H c3] 39)).alloc (.cells #[.int .i64 0] 2)).alloc (.cells #[.func (.func 96) #[] #[.pointer (some ⟨w3.heap.size, 0, none⟩), .pointer (some ⟨w3.heap.size + 1, 0, none⟩)]] 116) = wA at *
    rw [hpo] at I3 L3 F3 zA hz4
    rw [hlo] at I3 hz4 hz3 t3l
    simp only [hpo]
    have T5 := Lib.hid (fun V (hV : Below lo w2 V) => T3.under hV t3l)
    have B5 := Lib.hid (fun V (hV : Below lo w2 V) => B3.trans (hV.mono hz3))
    have SP := Lib.hid (spd_start zA I3 hz4 L3 F3)
    have ZA := Lib.hid zA
    clear I3 L3 F3 zA HM hb3 T3 B3
    refine (blank_any W H _ (by omega) (by omega)).mono ?_
    rintro e w' ⟨rfl, rfl⟩
    simp only [ZA.out]
    go_wp2_with fail
    simp only [ZA.out, show po + 3 + 1 = po + 4 from rfl, show po + 4 + 1 = po + 5 from rfl, show po + 1 + 1 = po + 2 from rfl] at SP ⊢
    generalize ((wA.alloc (.cells (boolC (List.replicate (W * H) false)) 4)).alloc (.cells #[.int .i64 W, .int .i64 H, .slice (some ⟨po + 3, 0, none⟩) (W * H) (W * H)] 108)).alloc (.cells #[.pointer (some ⟨po + 4, 0, none⟩)] 78) = wC at *
    have EI := Lib.hid (each_any (po + 4) W H (.slice (some ⟨po + 3, 0, none⟩) (W * H) (W * H)) 100 #[.pointer (some ⟨po, 0, none⟩), .pointer (some ⟨po + 5, 0, none⟩), .pointer (some ⟨po + 2, 0, none⟩)]
      (fun k wr => SpdS w2 lo po A3 c3 vs W H (spdTo W H G k) (bitsTo (spdB W H G) k (W * H)) wr) wC (by omega) (by omega) (fun k wr h => h.img.hdr)
      (fun x y hx hy wr h => eachS_any w2 lo po A3 c3 vs W H G x y wr hz4 hW hH hx hy GB.out h) (by rw [bitsTo_zero]; exact SP.out) enters_eachS)
    clear SP
    refine EI.out.mono ?_
    rintro e w' ⟨rfl, hS⟩
    rw [bitsTo_all, ← E.out] at hS
    have HS := Lib.hid hS
    have km := hS.mp.cell 0
    have kl := hS.lost.cell 0
    simp at km kl
    rw [← E2.out] at kl
    have TL := Lib.hid (fun V (hV : Below w'.heap.size w' V) => (show Calls Try.prog 87 #[.pointer (some ⟨po + 4, 0, none⟩)] V fun e w'' => ∃ A c, e = .returned (.agg #[.slice A H c]) ∧ w''.ownsRow w'.heap.size 9 1 (.slice A H c) H (strs (rowsTo RL W H)) ∧ Below w'.heap.size w' w'' from
      (told_any _ _ _ _ _ _ (hS.img.ext hV) (by omega) (by omega)).mono fun e w'' ⟨A, c, h1, h2, h3⟩ => ⟨A, c, h1, own_base h2 hV.size, Ext.then_ hV h3⟩))
    have t6 := T5.out _ hS.hei.ext
    have B6 := B5.out _ hS.hei.ext
    have ml := hS.mp.lt
    have ll := hS.lost.lt
    clear hS EI T5 B5 E E2
    have t6l := t6.lt
    go_wp2_with fail
    go_region_law (first
      | (go_simp; go_at_call 87; refine (TL.out _ (by repeat (first | assumption | exact Ext.refl _ | refine Ext.draw ?_ | refine Ext.drawN ?_ _))).mono ?_; rintro e w5 ⟨A5, c5, rfl, own5, hb5⟩; have kl5 := (hb5.cell (p := ⟨po + 1, 0, none⟩) ll).trans kl; have t7 := t6.under hb5 t6l; have f0 := t7.free 0; have c0 := t7.cell 0; have cs := (t7.store 0 (.slice A5 H c5)).cell 0; simp at c0 cs))
    all_goals
      go_wp2_with fail
      refine bodyPost_ret (v := .tuple #[.agg #[.slice A5 H c5], .int .i64 RZ, .bool true]) (by simp [results, Try.results40, go_sem, cs]) rfl ⟨A5, c5, by rw [HL.out], ?_, ?_⟩
      · rw [HL.out]
        exact own_base (ownsRow_setCell_below own5 (a := ⟨w.heap.size + 1, 0, none⟩) (by show w.heap.size + 1 < w'.heap.size; omega) _) (by omega)
      · exact (Ext.then_ B6 hb5).setCell (p := ⟨w.heap.size + 1, 0, none⟩) (by show w.heap.size ≤ w.heap.size + 1; omega) _
end Go.Proofs.Ytdbelajgndclfaa
