/- The labels of components: the reference's. -/
import Derived.Test.YtdhajndmebnknaaRchS
namespace Go.Proofs.Ytdhajndmebnknaa
open Go.RowKit

set_option maxRecDepth 100000 in
set_option maxHeartbeats 2000000 in
theorem spotsS_any (mp : Nat) (A0 : Option Addr) (cc : Nat) (rows : List ByteArray) (L : List Bool) (W H : Nat) (w : World) (h : PicAt w mp A0 cc rows) (hok : picOk rows = true) (hL : picBits rows = L) (hWr : picW rows = W) (hHr : rows.length = H) :
    Calls Try.prog 81 #[.pointer (some ⟨mp, 0, none⟩)] w fun e w' => ∃ g c, e = .returned (.slice (some ⟨g, 0, none⟩) (spB L W (W * H)).length c) ∧
      w'.ownsRow w.heap.size 50 2 (.slice (some ⟨g, 0, none⟩) (spB L W (W * H)).length c) (spB L W (W * H)).length (spL (spB L W (W * H))) ∧ Below w.heap.size w w' := by
  obtain ⟨s1, s2, s3, s4⟩ := picOk_sizes hok
  rw [hWr] at s3 s4
  rw [hHr] at s1 s2
  have PX := Lib.hid (fun V (hb : Below w.heap.size w V) => h.ext hb)
  have WD := Lib.hid (fun V (hV : PicAt V mp A0 cc rows) => width_any mp A0 cc rows V hV (by omega))
  have HD := Lib.hid (fun V (hV : PicAt V mp A0 cc rows) => height_any mp A0 cc rows V hV)
  have BK := Lib.hid (fun x y V (hV : PicAt V mp A0 cc rows) => black_any mp A0 cc rows x y V hV hok)
  rw [hWr] at WD
  rw [hHr] at HD
  rw [hL, hWr, hHr] at BK
  have nb : W * H ≤ 256 := Nat.le_trans (Nat.mul_le_mul s4 s2) (by decide)
  have YB : Hid (∀ y, y < H → y * W + W ≤ W * H) := by
    intro y hy
    have := Nat.mul_le_mul_right W (show y + 1 ≤ H by omega)
    rw [Nat.succ_mul, Nat.mul_comm H W] at this
    exact this
  have hrow0 := World.ownsRow_lit (e := 50) (size := 2) w #[] 0 (Nat.le_refl _) (by decide) rfl
  have B0 : Below w.heap.size w (w.alloc (.cells #[] 50)) := Ext.more (Ext.refl _) _
  have SL := Lib.hid (fun k => spB_len L W k)
  have S0 : Hid (spB L W 0 = []) := rfl
  clear h hok hL hWr hHr
  go_enter Try.func81, Try.ntmps81
  go_wp2_with fail
  generalize w.alloc (.cells #[] 50) = w0 at *
  go_loopw [3, 4, 5] (fun v i _ wr => ∃ y g c : Nat, y ≤ H ∧ i = .int .i64 y ∧ v = .slice (some ⟨g, 0, none⟩) (spB L W (y * W)).length c ∧ wr.ownsRow w.heap.size 50 2 (.slice (some ⟨g, 0, none⟩) (spB L W (y * W)).length c) (spB L W (y * W)).length (spL (spB L W (y * W))) ∧ Below w.heap.size w wr) (fun _ i _ _ => H - (intOf i).toNat)
  case atStart => exact ⟨0, _, 0, Nat.zero_le _, rfl, by rw [Nat.zero_mul, S0.out]; rfl, by rw [Nat.zero_mul, S0.out]; simpa [spL] using hrow0, B0⟩
  case round =>
    obtain ⟨y, g, c, hy, rfl, rfl, hown, hb⟩ := hrel
    clear hrow0 B0
    have H1 := Lib.hid (HD.out wr (PX.out _ hb))
    have OW := Lib.hid hown
    clear hown
    by_cases hlt : y < H
    · have yb := YB.out y hlt
      have y0 : (y : Int) < (H : Int) := by omega
      generalize hsl : spB L W (y * W) = sl0 at *
      have HSL := Lib.hid hsl
      clear hsl
      go_wp2_with (go_at_call 49; refine H1.out.mono ?_; rintro e w' ⟨rfl, rfl⟩)
      go_loopw [3, 5] (fun v i wr => ∃ x g c : Nat, x ≤ W ∧ i = .int .i64 x ∧ v = .slice (some ⟨g, 0, none⟩) (spB L W (y * W + x)).length c ∧ wr.ownsRow w.heap.size 50 2 (.slice (some ⟨g, 0, none⟩) (spB L W (y * W + x)).length c) (spB L W (y * W + x)).length (spL (spB L W (y * W + x))) ∧ Below w.heap.size w wr) (fun _ i _ => W - (intOf i).toNat)
      case atStart => exact ⟨0, g, c, Nat.zero_le _, rfl, by rw [Nat.add_zero, HSL.out], by rw [Nat.add_zero, HSL.out]; exact OW.out, hb⟩
      case round =>
        obtain ⟨x, g, c, hx, rfl, rfl, hown, hb⟩ := hrel
        have W1 := Lib.hid (WD.out wr (PX.out _ hb))
        by_cases hxl : x < W
        · have x0 : (x : Int) < (W : Int) := by omega
          have P1 := Lib.hid (BK.out x y wr (PX.out _ hb))
          have SS := Lib.hid (spB_succ L W (y * W + x))
          rw [plM hxl, plD hxl] at SS
          rw [bit_in hxl hlt] at P1
          have sb := SL.out (y * W + x)
          have hsz := hb.size
          cases hbt : L.getD (y * W + x) false
          · rw [hbt] at P1 SS
            have E : Hid (spB L W (y * W + (x + 1)) = spB L W (y * W + x)) := by rw [Hid, ← Nat.add_assoc, SS.out]; simp
            have OW2 := Lib.hid hown
            clear hown hbt
            go_wp2_with (first
              | (go_at_call 48; refine W1.out.mono ?_; rintro e w' ⟨rfl, rfl⟩)
              | (go_at_call 78; refine P1.out.mono ?_; rintro e w' ⟨rfl, rfl⟩))
            go_roundw
            case rel => exact ⟨x + 1, g, c, by omega, by go_num, by rw [E.out], by rw [E.out]; exact OW2.out, hb⟩
            case measure => simp [intOf]; omega
          · rw [hbt] at P1 SS
            have E : Hid (spB L W (y * W + (x + 1)) = spB L W (y * W + x) ++ [((x : Int), (y : Int))]) := by rw [Hid, ← Nat.add_assoc, SS.out]; simp
            clear hbt
            generalize hsl2 : spB L W (y * W + x) = sl1 at *
            have hown' := Lib.hid hown
            obtain ⟨sn, hsn⟩ : ∃ sn, sl1.length = sn := ⟨_, rfl⟩
            have HSN := Lib.hid hsn
            rw [hsn] at hown hown' sb
            rw [hsn]
            clear hsl2 hsn SS
            go_wp2_with (first
              | (go_at_call 48; refine W1.out.mono ?_; rintro e w' ⟨rfl, rfl⟩)
              | (go_at_call 78; refine P1.out.mono ?_; rintro e w' ⟨rfl, rfl⟩)
              | (at_builtin; refine wpList_app spotT (by rfl) _ _ (by rfl) w.heap.size (.slice (some ⟨g, 0, none⟩) sn c) sn (spL sl1) (by rfl) (hown.alloc _) wr.heap.size #[.int .i64 x, .int .i64 y] (by rfl) (heap_alloc_new _ _) rfl (by simp [Value.oneCell']) (by omega) (by simp; omega) ?_; intro g3 cap3 w3 hown3 hgrow3 hat3 hlt3))
            have OW3 : Hid (w3.ownsRow w.heap.size 50 2 (.slice (some ⟨g3, 0, none⟩) (sn + 1) cap3) (sn + 1) (spL (sl1 ++ [((x : Int), (y : Int))]))) := by
              rw [Hid, spL_append]; exact hown3
            have B3 : Below w.heap.size w w3 := (hb.alloc hsz _).grown hgrow3 (by simp; omega) (fun z hz => (hown'.out.lt z hz).1)
            clear hown3 hgrow3 hat3
            go_roundw
            case rel => exact ⟨x + 1, g3, cap3, by omega, by go_num, by rw [E.out, List.length_append, HSN.out]; rfl, by rw [E.out, List.length_append, HSN.out]; exact OW3.out, B3⟩
            case measure => simp [intOf]; omega
        · obtain rfl : x = W := by omega
          have e : Hid ((y + 1) * x = y * x + x) := Nat.succ_mul _ _
          have OW2 := Lib.hid hown
          clear hown
          go_wp2_with (go_at_call 48; refine W1.out.mono ?_; rintro e w' ⟨rfl, rfl⟩)
          go_roundw
          case rel => exact ⟨y + 1, g, c, by omega, by go_num, by rw [e.out], by rw [e.out]; exact OW2.out, hb⟩
          case measure => simp [intOf]; omega
    · obtain rfl : y = H := by omega
      have e : Hid (W * y = y * W) := Nat.mul_comm _ _
      go_wp2_with (go_at_call 49; refine H1.out.mono ?_; rintro e w' ⟨rfl, rfl⟩)
      go_ret
      exact ⟨g, c, by rw [e.out]; rfl, by rw [e.out]; exact OW.out, hb⟩

theorem bTo_get' {b : Nat → Bool} {n i : Nat} (h : i < n) : (bTo b n).getD i false = b i := by simp [bTo, List.getD_eq_getElem?_getD, h]
/-- The pixels that are reached. -/
def rchL (stl : List (Int × Int)) (L : List Bool) (W H : Nat) (a : Int × Int) : List Bool := bTo (rO W (rchF (nbD stl) (okI L W H) (W * H) a)) (W * H)
set_option maxRecDepth 100000 in
set_option maxHeartbeats 1000000 in
theorem partS_any {eight : Bool} {stl : List (Int × Int)} (ST : StT eight stl) (mp : Nat) (A0 : Option Addr) (cc : Nat) (rows : List ByteArray) (L : List Bool) (W H : Nat) (w : World) (h : PicAt w mp A0 cc rows) (hok : picOk rows = true) (hL : picBits rows = L) (hWr : picW rows = W) (hHr : rows.length = H)
    (ax ay : Nat) (ha : okI L W H ((ax : Int), (ay : Int)) = true) :
    Calls Try.prog 80 #[.pointer (some ⟨mp, 0, none⟩), .agg #[.int .i64 ax, .int .i64 ay], .bool eight] w fun e w' => ∃ q A c, e = .returned (.pointer (some ⟨q, 0, none⟩)) ∧
      PicAt w' q A c (rowsTo (rchL stl L W H ((ax : Int), (ay : Int))) W H) ∧ Below w.heap.size w w' := by
  have B2 : Below w.heap.size w ((w.alloc (.cells #[.int .i64 ax, .int .i64 ay] 50)).alloc (.cells #[.int .i64 ax, .int .i64 ay] 50)) := Ext.more (Ext.more (Ext.refl _) _) _
  have T1 := Blk.made (w.alloc (.cells #[.int .i64 ax, .int .i64 ay] 50)) 50 #[.int .i64 ax, .int .i64 ay]
  rw [World.size_alloc] at T1
  have RS := Lib.hid (reachS_any ST mp A0 cc rows L W H _ (h.ext B2) hok hL hWr hHr ax ay ha (w.heap.size + 1) 1 (by rw [T1.cell 0]; rfl) (by rw [T1.cell 1]; rfl) T1.lt)
  have HL := Lib.hid (rowsTo_length (rchL stl L W H ((ax : Int), (ay : Int))) W H)
  have E : Hid (rchL stl L W H ((ax : Int), (ay : Int)) = bTo (rO W (rchF (nbD stl) (okI L W H) (W * H) ((ax : Int), (ay : Int)))) (W * H)) := rfl
  rw [← E.out] at RS
  clear h hok hL hWr hHr ha E T1
  generalize rchL stl L W H ((ax : Int), (ay : Int)) = LB at *
  go_enter Try.func80, Try.ntmps80
  go_wp2_with fail
  refine RS.out.mono ?_
  rintro e w3 ⟨A, c, rfl, hown, hb⟩
  have hB := Ext.then_ B2 (Ext.more hb (.cells #[.slice A H c] 28))
  have P3 : Hid (PicAt (w3.alloc (.cells #[.slice A H c] 28)) w3.heap.size A c (rowsTo LB W H)) := by
    refine ⟨by simp, ?_, ?_⟩
    · rw [HL.out]; exact cell_new _ _ _ _
    · exact (Rd.of_own hown).ext (Ext.more (Ext.refl _) (.cells #[.slice A H c] 28))
  clear hown hb RS
  go_wp2_with fail
  go_ret
  exact ⟨w3.heap.size, A, c, rfl, P3.out, hB⟩

/-- Labels as a list of all pixels. -/
def labO (W : Nat) (f : Int × Int → Nat) (i : Nat) : Int := (f (((i % W : Nat) : Int), ((i / W : Nat) : Int)) : Int)
theorem labO_at {W : Nat} (f : Int × Int → Nat) {x y : Nat} (hx : x < W) : labO W f (y * W + x) = (f ((x : Int), (y : Int)) : Int) := by
  rw [labO, plM hx, plD hx]
/-- The labels behind the first m pixels of a part. -/
def labM (O : Nat → Int) (LB : List Bool) (c : Nat) (m i : Nat) : Int := if i < m && LB.getD i false then (c : Int) else O i
theorem labM_zero (O : Nat → Int) (LB : List Bool) (c : Nat) : labM O LB c 0 = O := by funext i; simp [labM]
theorem labM_yes {O : Nat → Int} {LB : List Bool} {c m : Nat} (h : LB.getD m false = true) : labM O LB c (m + 1) = setF (labM O LB c m) m (c : Int) := by
  funext i
  by_cases e : i = m
  · subst e; rw [setF_same]; unfold labM; rw [h]; simp
  · rw [setF_ne e]
    unfold labM
    have : (decide (i < m + 1)) = decide (i < m) := by rw [decide_eq_decide]; omega
    rw [this]
theorem labM_no {O : Nat → Int} {LB : List Bool} {c m : Nat} (h : LB.getD m false = false) : labM O LB c (m + 1) = labM O LB c m := by
  funext i
  by_cases e : i = m
  · subst e; unfold labM; rw [h]; simp
  · unfold labM
    have : (decide (i < m + 1)) = decide (i < m) := by rw [decide_eq_decide]; omega
    rw [this]

end Go.Proofs.Ytdhajndmebnknaa
