/- How many sets of pixels there are up to a level, and up to each: what both sides return. -/
import Derived.Test.YtajepoopicoodaaBlw
import Derived.Test.YtajepoopicoodaaShp
namespace Go.Proofs.Ytajepoopicoodaa
open Go.RowKit

def cbOk (rows : List (List Int)) (lvl : Int) : Bool := greyOk rows && inB lvl 0 99
def cbV (rows : List (List Int)) (lvl : Int) : Int := if cbOk rows lvl then (belowN rows lvl : Int) else 0

set_option maxRecDepth 100000 in
set_option maxHeartbeats 1000000 in
theorem countBelow_any (A : Option Addr) (c : Nat) (rows : List (List Int)) (lvl : Int) (w : World) (h : MatRd w A rows) (hn : rows.length ≤ 1000000000) (hr : ∀ i (h : i < rows.length), rows[i].length ≤ 1000000000) :
    Calls Try.prog 37 #[.agg #[.slice A rows.length c], .int .i64 lvl] w fun e w' => e = .returned (.tuple #[.int .i64 (cbV rows lvl), .bool (cbOk rows lvl)]) ∧ Below w.heap.size w w' := by
  have B1 : Below w.heap.size w (w.alloc (.cells #[.slice A rows.length c] 31)) := Ext.more (Ext.refl _) _
  have G1 := GreyAt.boxed (c := c) h 31
  have c0 := G1.cell
  have VG := Lib.hid (validGrey_any A c rows _ (h.ext B1) hn hr)
  have BL := Lib.hid (fun V (hV : Below (w.alloc (.cells #[.slice A rows.length c] 31)).heap.size (w.alloc (.cells #[.slice A rows.length c] 31)) V) (hok : greyOk rows = true) => below_any w.heap.size A c rows lvl V (G1.ext hV) hok)
  have IN := Lib.hid (fun V => in_any lvl 0 99 V)
  clear h hn hr G1
  cases hg : greyOk rows
  · have F1 : Hid (cbOk rows lvl = false) := by rw [Hid, cbOk, hg]; rfl
    have F2 : Hid (cbV rows lvl = 0) := by rw [Hid, cbV, F1.out]; rfl
    rw [hg] at VG
    rw [F1.out, F2.out]
    clear hg BL
    generalize rows.length = n at *
    go_enter Try.func37, Try.ntmps37
    go_wp2_with fail
    refine VG.out.mono ?_
    rintro e w2 ⟨rfl, hb⟩
    have B2 := Ext.then_ B1 hb
    go_wp2_with fail
    go_ret2
    exact ⟨rfl, B2⟩
  have BL2 := Lib.hid (fun V hV => BL.out V hV hg)
  rw [hg] at VG
  cases hl : inB lvl 0 99
  · have F1 : Hid (cbOk rows lvl = false) := by rw [Hid, cbOk, hg, hl]; rfl
    have F2 : Hid (cbV rows lvl = 0) := by rw [Hid, cbV, F1.out]; rfl
    rw [hl] at IN
    rw [F1.out, F2.out]
    clear hg BL BL2 hl
    generalize rows.length = n at *
    go_enter Try.func37, Try.ntmps37
    go_wp2_with fail
    refine VG.out.mono ?_
    rintro e w2 ⟨rfl, hb⟩
    have B2 := Ext.then_ B1 hb
    go_wp2_with (go_at_call 78; refine (IN.out _).mono ?_; rintro e w' ⟨rfl, rfl⟩)
    go_ret2
    exact ⟨rfl, B2⟩
  · have F1 : Hid (cbOk rows lvl = true) := by rw [Hid, cbOk, hg, hl]; rfl
    have F2 : Hid (cbV rows lvl = (belowN rows lvl : Int)) := by rw [Hid, cbV, F1.out]; rfl
    rw [hl] at IN
    rw [F1.out, F2.out]
    clear hg BL hl F1 F2
    generalize belowN rows lvl = bn at *
    generalize rows.length = n at *
    go_enter Try.func37, Try.ntmps37
    go_wp2_with fail
    refine VG.out.mono ?_
    rintro e w2 ⟨rfl, hb⟩
    have B2 := Ext.then_ B1 hb
    go_wp2_with (go_at_call 78; refine (IN.out _).mono ?_; rintro e w' ⟨rfl, rfl⟩)
    refine (BL2.out _ hb).mono ?_
    rintro e w3 ⟨rfl, hb3⟩
    have B3 := Ext.then_ B2 hb3
    go_wp2_with fail
    go_ret2
    exact ⟨rfl, B3⟩

set_option maxRecDepth 100000 in
set_option maxHeartbeats 1000000 in
theorem countBelowS_any (A : Option Addr) (c : Nat) (rows : List (List Int)) (lvl : Int) (w : World) (h : MatRd w A rows) (hn : rows.length ≤ 1000000000) (hr : ∀ i (h : i < rows.length), rows[i].length ≤ 1000000000) :
    Calls Try.prog 36 #[.agg #[.slice A rows.length c], .int .i64 lvl] w fun e w' => e = .returned (.tuple #[.int .i64 (cbV rows lvl), .bool (cbOk rows lvl)]) ∧ Below w.heap.size w w' := by
  have B1 : Below w.heap.size w (w.alloc (.cells #[.slice A rows.length c] 31)) := Ext.more (Ext.refl _) _
  have G1 := GreyAt.boxed (c := c) h 31
  have VG := Lib.hid (isGreyS_any w.heap.size A c rows _ G1 hn hr)
  have IN := Lib.hid (fun V => inS_any lvl 0 99 V)
  cases hg : greyOk rows
  · have F1 : Hid (cbOk rows lvl = false) := by rw [Hid, cbOk, hg]; rfl
    have F2 : Hid (cbV rows lvl = 0) := by rw [Hid, cbV, F1.out]; rfl
    rw [hg] at VG
    rw [F1.out, F2.out]
    clear hg h hn hr G1
    generalize rows.length = n at *
    go_enter Try.func36, Try.ntmps36
    go_wp2_with fail
    refine VG.out.mono ?_
    rintro e w2 ⟨rfl, nd, rfl⟩
    go_wp2_with fail
    go_ret2
    exact ⟨rfl, Ext.drawN B1 nd⟩
  rw [hg] at VG
  cases hl : inB lvl 0 99
  · have F1 : Hid (cbOk rows lvl = false) := by rw [Hid, cbOk, hg, hl]; rfl
    have F2 : Hid (cbV rows lvl = 0) := by rw [Hid, cbV, F1.out]; rfl
    rw [hl] at IN
    rw [F1.out, F2.out]
    clear hg hl h hn hr G1
    generalize rows.length = n at *
    go_enter Try.func36, Try.ntmps36
    go_wp2_with fail
    refine VG.out.mono ?_
    rintro e w2 ⟨rfl, nd, rfl⟩
    go_wp2_with (go_at_call 76; refine (IN.out _).mono ?_; rintro e w' ⟨rfl, rfl⟩)
    go_ret2
    exact ⟨rfl, Ext.drawN B1 nd⟩
  · have F1 : Hid (cbOk rows lvl = true) := by rw [Hid, cbOk, hg, hl]; rfl
    have F2 : Hid (cbV rows lvl = (belowN rows lvl : Int)) := by rw [Hid, cbV, F1.out]; rfl
    have BL := Lib.hid (fun nd => belowS_any w.heap.size A c rows lvl _ (G1.drewN nd) hg (inB_iff.1 hl))
    rw [hl] at IN
    rw [F1.out, F2.out]
    clear hg hl F1 F2 h hn hr G1
    generalize belowN rows lvl = bn at *
    generalize rows.length = n at *
    go_enter Try.func36, Try.ntmps36
    go_wp2_with fail
    refine VG.out.mono ?_
    rintro e w2 ⟨rfl, nd, rfl⟩
    go_wp2_with (go_at_call 76; refine (IN.out _).mono ?_; rintro e w' ⟨rfl, rfl⟩)
    refine (BL.out nd).mono ?_
    rintro e w3 ⟨rfl, hb3⟩
    have B3 := Ext.then_ (Ext.drawN B1 nd) hb3
    go_wp2_with fail
    go_ret2
    exact ⟨rfl, B3⟩

/-- The numbers up to each of the first k levels. -/
def lcL (rows : List (List Int)) (k : Nat) : List Int := (List.range k).map fun i : Nat => (belowN rows (i : Int) : Int)
theorem lcL_succ (rows : List (List Int)) (k : Nat) : lcL rows (k + 1) = lcL rows k ++ [(belowN rows (k : Int) : Int)] := by simp [lcL, List.range_succ]
theorem lcL_len (rows : List (List Int)) (k : Nat) : (lcL rows k).length = k := by simp [lcL]
def lcV (rows : List (List Int)) : List Int := if greyOk rows then lcL rows 100 else []
theorem lcV_len (rows : List (List Int)) : (lcV rows).length ≤ 100 := by
  unfold lcV; split
  · rw [lcL_len]; omega
  · simp
/-- A call has returned a list of numbers of memory of its own, and whether it is right. -/
def LcRes (w : World) (R : List Int) (ok : Bool) (e : Ending) (w' : World) : Prop :=
  ∃ A c, e = .returned (.tuple #[.slice A R.length c, .bool ok]) ∧ w'.ownsRow w.heap.size 2 1 (.slice A R.length c) R.length (ints R) ∧ Below w.heap.size w w'
set_option maxRecDepth 100000 in
set_option maxHeartbeats 1000000 in
theorem levelCounts_any (A : Option Addr) (c : Nat) (rows : List (List Int)) (w : World) (h : MatRd w A rows) (hn : rows.length ≤ 1000000000) (hr : ∀ i (h : i < rows.length), rows[i].length ≤ 1000000000) :
    Calls Try.prog 39 #[.agg #[.slice A rows.length c]] w (LcRes w (lcV rows) (greyOk rows)) := by
  have B1 : Below w.heap.size w (w.alloc (.cells #[.slice A rows.length c] 31)) := Ext.more (Ext.refl _) _
  have G1 := GreyAt.boxed (c := c) h 31
  have c0 := G1.cell
  have VG := Lib.hid (validGrey_any A c rows _ (h.ext B1) hn hr)
  cases hg : greyOk rows
  · have F : Hid (lcV rows = []) := by rw [Hid, lcV, hg]; rfl
    rw [hg] at VG
    rw [F.out]
    have NIL : Hid (∀ V : World, V.ownsRow w.heap.size 2 1 (.slice none 0 0) 0 (ints [])) := fun V => ⟨rfl, .inl ⟨rfl, rfl⟩⟩
    clear hg h hn hr G1
    generalize rows.length = n at *
    go_enter Try.func39, Try.ntmps39
    go_wp2_with fail
    refine VG.out.mono ?_
    rintro e w2 ⟨rfl, hb⟩
    have B2 := Ext.then_ B1 hb
    go_wp2_with fail
    go_ret2
    exact ⟨none, 0, rfl, NIL.out _, B2⟩
  · have F : Hid (lcV rows = lcL rows 100) := by rw [Hid, lcV, hg]; rfl
    rw [hg] at VG
    have BL := Lib.hid (fun (lvl : Nat) V (hV : Below (w.alloc (.cells #[.slice A rows.length c] 31)).heap.size (w.alloc (.cells #[.slice A rows.length c] 31)) V) => below_any w.heap.size A c rows (lvl : Int) V (G1.ext hV) hg)
    have LS := Lib.hid (lcL_succ rows)
    have LL := Lib.hid (lcL_len rows 100)
    have L0 : Hid (lcL rows 0 = []) := rfl
    rw [F.out]
    clear hg h hn hr G1 F
    generalize rows.length = n at *
    go_enter Try.func39, Try.ntmps39
    go_wp2_with fail
    refine VG.out.mono ?_
    rintro e w2 ⟨rfl, hb⟩
    have hrow0 := World.ownsRow_lit (e := 2) (size := 1) w2 #[] 0 (Nat.le_refl _) (by decide) rfl
    have hz : w.heap.size + 1 ≤ w2.heap.size := by have := hb.size; simpa using this
    have hb2 := Ext.more hb (.cells #[] 2)
    have LZ : Hid (w2.heap.size ≤ (w2.alloc (.cells #[] 2)).heap.size) := by simp [Hid]
    go_wp2_with fail
    generalize w2.alloc (.cells #[] 2) = w3 at *
    go_loopw [4, 5, 10] (fun v _ i wr => ∃ k gb cb : Nat, k ≤ 100 ∧ i = .int .i64 k ∧ v = .slice (some ⟨gb, 0, none⟩) k cb ∧ wr.ownsRow w2.heap.size 2 1 (.slice (some ⟨gb, 0, none⟩) k cb) k (ints (lcL rows k)) ∧ Below (w.alloc (.cells #[.slice A n c] 31)).heap.size (w.alloc (.cells #[.slice A n c] 31)) wr ∧ w2.heap.size ≤ wr.heap.size) (fun _ _ i _ => 100 - (intOf i).toNat)
    case atStart => exact ⟨0, _, 0, Nat.zero_le _, rfl, rfl, by rw [L0.out]; exact hrow0, hb2, LZ.out⟩
    case round =>
      obtain ⟨k, gb, cb, hk, rfl, rfl, hown, hbr, hsz⟩ := hrel
      clear hrow0 hb2
      by_cases hlt : k < 100
      · have B := Lib.hid (BL.out k wr hbr)
        have S := Lib.hid (LS.out k)
        have i0 : (k : Int) < 100 := by omega
        generalize belowN rows (k : Int) = bn at *
        generalize lcL rows k = lk at *
        go_wp2_with fail
        refine B.out.mono ?_
        rintro e w5 ⟨rfl, hb5⟩
        have O5 := own_ext hb5 hown
        have z5 := hb5.size
        have HB5 := Lib.hid (Ext.then_ hbr hb5)
        go_wp2_with (at_builtin; refine wpList_app intT (by rfl) _ _ (by rfl) w2.heap.size (.slice (some ⟨gb, 0, none⟩) k cb) k (ints lk) (by rfl) (O5.alloc _) w5.heap.size #[.int .i64 bn] (by rfl) (heap_alloc_new _ _) rfl (by simp [Value.oneCell']) (by omega) (by simp; omega) ?_; intro g3 cap3 w6 hown6 hgrow6 hat6 hlt6)
        have O6 : Hid (w6.ownsRow w2.heap.size 2 1 (.slice (some ⟨g3, 0, none⟩) (k + 1) cap3) (k + 1) (ints (lcL rows (k + 1)))) := by
          rw [Hid, S.out]; simpa [ints] using hown6
        have B6 : Hid (Below (w.alloc (.cells #[.slice A n c] 31)).heap.size (w.alloc (.cells #[.slice A n c] 31)) w6) := (HB5.out.alloc HB5.out.size _).grown hgrow6 (by have := HB5.out.size; simp at this ⊢; omega) (fun z hz => by have := (O5.lt z hz).1; simp; omega)
        have Z6 : w2.heap.size ≤ w6.heap.size := by have := hgrow6.size; simp at this; omega
        clear hown6 hgrow6 hat6 O5 hown hbr
        go_roundw
        case rel => exact ⟨k + 1, g3, cap3, by omega, by go_num, rfl, O6.out, B6.out, Z6⟩
        case measure => simp [intOf]; omega
      · obtain rfl : k = 100 := by omega
        have OW := Lib.hid hown
        have HB := Lib.hid (Ext.then_ B1 hbr)
        clear hown hbr
        go_wp2_with fail
        go_ret2
        exact ⟨some ⟨gb, 0, none⟩, cb, by rw [LL.out]; rfl, by rw [LL.out]; exact own_base OW.out (by omega), HB.out⟩

set_option maxRecDepth 100000 in
set_option maxHeartbeats 1000000 in
theorem levelCountsS_any (A : Option Addr) (c : Nat) (rows : List (List Int)) (w : World) (h : MatRd w A rows) (hn : rows.length ≤ 1000000000) (hr : ∀ i (h : i < rows.length), rows[i].length ≤ 1000000000) :
    Calls Try.prog 38 #[.agg #[.slice A rows.length c]] w (LcRes w (lcV rows) (greyOk rows)) := by
  have B1 : Below w.heap.size w (w.alloc (.cells #[.slice A rows.length c] 31)) := Ext.more (Ext.refl _) _
  have G1 := GreyAt.boxed (c := c) h 31
  have VG := Lib.hid (isGreyS_any w.heap.size A c rows _ G1 hn hr)
  cases hg : greyOk rows
  · have F : Hid (lcV rows = []) := by rw [Hid, lcV, hg]; rfl
    rw [hg] at VG
    rw [F.out]
    have NIL : Hid (∀ V : World, V.ownsRow w.heap.size 2 1 (.slice none 0 0) 0 (ints [])) := fun V => ⟨rfl, .inl ⟨rfl, rfl⟩⟩
    clear hg h hn hr G1
    generalize rows.length = n at *
    go_enter Try.func38, Try.ntmps38
    go_wp2_with fail
    refine VG.out.mono ?_
    rintro e w2 ⟨rfl, nd, rfl⟩
    go_wp2_with fail
    go_ret2
    exact ⟨none, 0, rfl, NIL.out _, Ext.drawN B1 nd⟩
  · have F : Hid (lcV rows = lcL rows 100) := by rw [Hid, lcV, hg]; rfl
    rw [hg] at VG
    have BL := Lib.hid (fun (lvl : Nat) V (hV : Below (w.alloc (.cells #[.slice A rows.length c] 31)).heap.size (w.alloc (.cells #[.slice A rows.length c] 31)) V) (hl : lvl < 100) => belowS_any w.heap.size A c rows (lvl : Int) V (G1.ext hV) hg (by omega))
    have LS := Lib.hid (lcL_succ rows)
    have LL := Lib.hid (lcL_len rows 100)
    have L0 : Hid (lcL rows 0 = []) := rfl
    rw [F.out]
    clear hg h hn hr G1 F
    generalize rows.length = n at *
    go_enter Try.func38, Try.ntmps38
    go_wp2_with fail
    refine VG.out.mono ?_
    rintro e w2 ⟨rfl, nd, rfl⟩
    have hb : Below (w.alloc (.cells #[.slice A n c] 31)).heap.size (w.alloc (.cells #[.slice A n c] 31)) ((w.alloc (.cells #[.slice A n c] 31)).drewN nd) := Ext.drawN (Ext.refl _) _
    generalize (w.alloc (.cells #[.slice A n c] 31)).drewN nd = w2 at *
    have hrow0 := World.ownsRow_lit (e := 2) (size := 1) w2 #[] 0 (Nat.le_refl _) (by decide) rfl
    have hz : w.heap.size + 1 ≤ w2.heap.size := by have := hb.size; simpa using this
    have hb2 := Ext.more hb (.cells #[] 2)
    have LZ : Hid (w2.heap.size ≤ (w2.alloc (.cells #[] 2)).heap.size) := by simp [Hid]
    go_wp2_with fail
    generalize w2.alloc (.cells #[] 2) = w3 at *
    go_loopw [4, 5] (fun v i wr => ∃ k gb cb : Nat, k ≤ 100 ∧ i = .int .i64 k ∧ v = .slice (some ⟨gb, 0, none⟩) k cb ∧ wr.ownsRow w2.heap.size 2 1 (.slice (some ⟨gb, 0, none⟩) k cb) k (ints (lcL rows k)) ∧ Below (w.alloc (.cells #[.slice A n c] 31)).heap.size (w.alloc (.cells #[.slice A n c] 31)) wr ∧ w2.heap.size ≤ wr.heap.size) (fun _ i _ => 100 - (intOf i).toNat)
    case atStart => exact ⟨0, _, 0, Nat.zero_le _, rfl, rfl, by rw [L0.out]; exact hrow0, hb2, LZ.out⟩
    case round =>
      obtain ⟨k, gb, cb, hk, rfl, rfl, hown, hbr, hsz⟩ := hrel
      clear hrow0 hb2
      by_cases hlt : k < 100
      · have B := Lib.hid (BL.out k wr hbr hlt)
        have S := Lib.hid (LS.out k)
        have i0 : (k : Int) ≤ 99 := by omega
        generalize belowN rows (k : Int) = bn at *
        generalize lcL rows k = lk at *
        go_wp2_with fail
        refine B.out.mono ?_
        rintro e w5 ⟨rfl, hb5⟩
        have O5 := own_ext hb5 hown
        have z5 := hb5.size
        have HB5 := Lib.hid (Ext.then_ hbr hb5)
        go_wp2_with (at_builtin; refine wpList_app intT (by rfl) _ _ (by rfl) w2.heap.size (.slice (some ⟨gb, 0, none⟩) k cb) k (ints lk) (by rfl) (O5.alloc _) w5.heap.size #[.int .i64 bn] (by rfl) (heap_alloc_new _ _) rfl (by simp [Value.oneCell']) (by omega) (by simp; omega) ?_; intro g3 cap3 w6 hown6 hgrow6 hat6 hlt6)
        have O6 : Hid (w6.ownsRow w2.heap.size 2 1 (.slice (some ⟨g3, 0, none⟩) (k + 1) cap3) (k + 1) (ints (lcL rows (k + 1)))) := by
          rw [Hid, S.out]; simpa [ints] using hown6
        have B6 : Hid (Below (w.alloc (.cells #[.slice A n c] 31)).heap.size (w.alloc (.cells #[.slice A n c] 31)) w6) := (HB5.out.alloc HB5.out.size _).grown hgrow6 (by have := HB5.out.size; simp at this ⊢; omega) (fun z hz => by have := (O5.lt z hz).1; simp; omega)
        have Z6 : w2.heap.size ≤ w6.heap.size := by have := hgrow6.size; simp at this; omega
        clear hown6 hgrow6 hat6 O5 hown hbr
        go_roundw
        case rel => exact ⟨k + 1, g3, cap3, by omega, by go_num, rfl, O6.out, B6.out, Z6⟩
        case measure => simp [intOf]; omega
      · obtain rfl : k = 100 := by omega
        have OW := Lib.hid hown
        have HB := Lib.hid (Ext.then_ B1 hbr)
        clear hown hbr
        go_wp2_with fail
        go_ret2
        exact ⟨some ⟨gb, 0, none⟩, cb, by rw [LL.out]; rfl, by rw [LL.out]; exact own_base OW.out (by omega), HB.out⟩

theorem LcRes.o {w w' : World} {R : List Int} {ok : Bool} {e : Ending} (h : LcRes w R ok e w') : ∃ A c, e = .returned (.tuple #[.slice A R.length c, .bool ok]) ∧ IntsO w' w.heap.size w'.heap.size A c R ∧ Below w.heap.size w w' := by
  obtain ⟨A, c, h1, h2, h3⟩ := h
  refine ⟨A, c, h1, ⟨h2, fun a ha => ?_⟩, h3⟩
  subst ha
  rcases h2.2 with ⟨hv, _⟩ | ⟨g, cap, cur, hv, _⟩
  · cases hv
  · simp only [Value.slice.injEq, Option.some.injEq] at hv
    obtain ⟨rfl, _⟩ := hv
    exact (h2.lt g rfl).2
end Go.Proofs.Ytajepoopicoodaa
