/- The labels of components: the reference's. -/
import Derived.Test.YtajepoopicoodaaRchS
namespace Go.Proofs.Ytajepoopicoodaa
open Go.RowKit

set_option maxRecDepth 100000 in
set_option maxHeartbeats 2000000 in
theorem spotsS_any (mp : Nat) (A0 : Option Addr) (cc : Nat) (rows : List ByteArray) (L : List Bool) (W H : Nat) (w : World) (h : PicAt w mp A0 cc rows) (hok : picOk rows = true) (hL : picBits rows = L) (hWr : picW rows = W) (hHr : rows.length = H) :
    Calls Try.prog 119 #[.pointer (some ⟨mp, 0, none⟩)] w fun e w' => ∃ g c, e = .returned (.slice (some ⟨g, 0, none⟩) (spB L W (W * H)).length c) ∧
      w'.ownsRow w.heap.size 28 2 (.slice (some ⟨g, 0, none⟩) (spB L W (W * H)).length c) (spB L W (W * H)).length (spL (spB L W (W * H))) ∧ Below w.heap.size w w' := by
  obtain ⟨s1, s2, s3, s4⟩ := picOk_sizes hok
  rw [hWr] at s3 s4
  rw [hHr] at s1 s2
  have PX := Lib.hid (fun V (hb : Below w.heap.size w V) => h.ext hb)
  have WD := Lib.hid (fun V (hV : PicAt V mp A0 cc rows) => width_any mp A0 cc rows V hV (by omega))
  have HD := Lib.hid (fun V (hV : PicAt V mp A0 cc rows) => height_any mp A0 cc rows V hV)
  have BK := Lib.hid (fun x y V (hV : PicAt V mp A0 cc rows) => black_any mp A0 cc rows x y V hV hok)
  rw [hWr] at WD
  rw [hHr] at HD
  rw [hL, hWr, hHr] at BK
  have nb : W * H ≤ 256 := Nat.le_trans (Nat.mul_le_mul s4 s2) (by decide)
  have YB : Hid (∀ y, y < H → y * W + W ≤ W * H) := by
    intro y hy
    have := Nat.mul_le_mul_right W (show y + 1 ≤ H by omega)
    rw [Nat.succ_mul, Nat.mul_comm H W] at this
    exact this
  have hrow0 := World.ownsRow_lit (e := 28) (size := 2) w #[] 0 (Nat.le_refl _) (by decide) rfl
  have B0 : Below w.heap.size w (w.alloc (.cells #[] 28)) := Ext.more (Ext.refl _) _
  have SL := Lib.hid (fun k => spB_len L W k)
  have S0 : Hid (spB L W 0 = []) := rfl
  clear h hok hL hWr hHr
  go_enter Try.func119, Try.ntmps119
  go_wp2_with fail
  generalize w.alloc (.cells #[] 28) = w0 at *
  go_loopw [3, 4, 5] (fun v i _ wr => ∃ y g c : Nat, y ≤ H ∧ i = .int .i64 y ∧ v = .slice (some ⟨g, 0, none⟩) (spB L W (y * W)).length c ∧ wr.ownsRow w.heap.size 28 2 (.slice (some ⟨g, 0, none⟩) (spB L W (y * W)).length c) (spB L W (y * W)).length (spL (spB L W (y * W))) ∧ Below w.heap.size w wr) (fun _ i _ _ => H - (intOf i).toNat)
  case atStart => exact ⟨0, _, 0, Nat.zero_le _, rfl, by rw [Nat.zero_mul, S0.out]; rfl, by rw [Nat.zero_mul, S0.out]; simpa [spL] using hrow0, B0⟩
  case round =>
    obtain ⟨y, g, c, hy, rfl, rfl, hown, hb⟩ := hrel
    clear hrow0 B0
    have H1 := Lib.hid (HD.out wr (PX.out _ hb))
    have OW := Lib.hid hown
    clear hown
    by_cases hlt : y < H
    · have yb := YB.out y hlt
      have y0 : (y : Int) < (H : Int) := by omega
      generalize hsl : spB L W (y * W) = sl0 at *
      have HSL := Lib.hid hsl
      clear hsl
      go_wp2_with (go_at_call 118; refine H1.out.mono ?_; rintro e w' ⟨rfl, rfl⟩)
      go_loopw [3, 5] (fun v i wr => ∃ x g c : Nat, x ≤ W ∧ i = .int .i64 x ∧ v = .slice (some ⟨g, 0, none⟩) (spB L W (y * W + x)).length c ∧ wr.ownsRow w.heap.size 28 2 (.slice (some ⟨g, 0, none⟩) (spB L W (y * W + x)).length c) (spB L W (y * W + x)).length (spL (spB L W (y * W + x))) ∧ Below w.heap.size w wr) (fun _ i _ => W - (intOf i).toNat)
      case atStart => exact ⟨0, g, c, Nat.zero_le _, rfl, by rw [Nat.add_zero, HSL.out], by rw [Nat.add_zero, HSL.out]; exact OW.out, hb⟩
      case round =>
        obtain ⟨x, g, c, hx, rfl, rfl, hown, hb⟩ := hrel
        have W1 := Lib.hid (WD.out wr (PX.out _ hb))
        by_cases hxl : x < W
        · have x0 : (x : Int) < (W : Int) := by omega
          have P1 := Lib.hid (BK.out x y wr (PX.out _ hb))
          have SS := Lib.hid (spB_succ L W (y * W + x))
          rw [plM hxl, plD hxl] at SS
          rw [bit_in hxl hlt] at P1
          have sb := SL.out (y * W + x)
          have hsz := hb.size
          cases hbt : L.getD (y * W + x) false
          · rw [hbt] at P1 SS
            have E : Hid (spB L W (y * W + (x + 1)) = spB L W (y * W + x)) := by rw [Hid, ← Nat.add_assoc, SS.out]; simp
            have OW2 := Lib.hid hown
            clear hown hbt
            go_wp2_with (first
              | (go_at_call 117; refine W1.out.mono ?_; rintro e w' ⟨rfl, rfl⟩)
              | (go_at_call 130; refine P1.out.mono ?_; rintro e w' ⟨rfl, rfl⟩))
            go_roundw
            case rel => exact ⟨x + 1, g, c, by omega, by go_num, by rw [E.out], by rw [E.out]; exact OW2.out, hb⟩
            case measure => simp [intOf]; omega
          · rw [hbt] at P1 SS
            have E : Hid (spB L W (y * W + (x + 1)) = spB L W (y * W + x) ++ [((x : Int), (y : Int))]) := by rw [Hid, ← Nat.add_assoc, SS.out]; simp
            clear hbt
            generalize hsl2 : spB L W (y * W + x) = sl1 at *
            have hown' := Lib.hid hown
            obtain ⟨sn, hsn⟩ : ∃ sn, sl1.length = sn := ⟨_, rfl⟩
            have HSN := Lib.hid hsn
            rw [hsn] at hown hown' sb
            rw [hsn]
            clear hsl2 hsn SS
            go_wp2_with (first
              | (go_at_call 117; refine W1.out.mono ?_; rintro e w' ⟨rfl, rfl⟩)
              | (go_at_call 130; refine P1.out.mono ?_; rintro e w' ⟨rfl, rfl⟩)
              | (at_builtin; refine wpList_app spotT (by rfl) _ _ (by rfl) w.heap.size (.slice (some ⟨g, 0, none⟩) sn c) sn (spL sl1) (by rfl) (hown.alloc _) wr.heap.size #[.int .i64 x, .int .i64 y] (by rfl) (heap_alloc_new _ _) rfl (by simp [Value.oneCell']) (by omega) (by simp; omega) ?_; intro g3 cap3 w3 hown3 hgrow3 hat3 hlt3))
            have OW3 : Hid (w3.ownsRow w.heap.size 28 2 (.slice (some ⟨g3, 0, none⟩) (sn + 1) cap3) (sn + 1) (spL (sl1 ++ [((x : Int), (y : Int))]))) := by
              rw [Hid, spL_append]; exact hown3
            have B3 : Below w.heap.size w w3 := (hb.alloc hsz _).grown hgrow3 (by simp; omega) (fun z hz => (hown'.out.lt z hz).1)
            clear hown3 hgrow3 hat3
            go_roundw
            case rel => exact ⟨x + 1, g3, cap3, by omega, by go_num, by rw [E.out, List.length_append, HSN.out]; rfl, by rw [E.out, List.length_append, HSN.out]; exact OW3.out, B3⟩
            case measure => simp [intOf]; omega
        · obtain rfl : x = W := by omega
          have e : Hid ((y + 1) * x = y * x + x) := Nat.succ_mul _ _
          have OW2 := Lib.hid hown
          clear hown
          go_wp2_with (go_at_call 117; refine W1.out.mono ?_; rintro e w' ⟨rfl, rfl⟩)
          go_roundw
          case rel => exact ⟨y + 1, g, c, by omega, by go_num, by rw [e.out], by rw [e.out]; exact OW2.out, hb⟩
          case measure => simp [intOf]; omega
    · obtain rfl : y = H := by omega
      have e : Hid (W * y = y * W) := Nat.mul_comm _ _
      go_wp2_with (go_at_call 118; refine H1.out.mono ?_; rintro e w' ⟨rfl, rfl⟩)
      go_ret
      exact ⟨g, c, by rw [e.out]; rfl, by rw [e.out]; exact OW.out, hb⟩

theorem bTo_get' {b : Nat → Bool} {n i : Nat} (h : i < n) : (bTo b n).getD i false = b i := by simp [bTo, List.getD_eq_getElem?_getD, h]
/-- The pixels that are reached. -/
def rchL (stl : List (Int × Int)) (L : List Bool) (W H : Nat) (a : Int × Int) : List Bool := bTo (rO W (rchF (nbD stl) (okI L W H) (W * H) a)) (W * H)
set_option maxRecDepth 100000 in
set_option maxHeartbeats 1000000 in
theorem partS_any {eight : Bool} {stl : List (Int × Int)} (ST : StT eight stl) (mp : Nat) (A0 : Option Addr) (cc : Nat) (rows : List ByteArray) (L : List Bool) (W H : Nat) (w : World) (h : PicAt w mp A0 cc rows) (hok : picOk rows = true) (hL : picBits rows = L) (hWr : picW rows = W) (hHr : rows.length = H)
    (ax ay : Nat) (ha : okI L W H ((ax : Int), (ay : Int)) = true) :
    Calls Try.prog 120 #[.pointer (some ⟨mp, 0, none⟩), .agg #[.int .i64 ax, .int .i64 ay], .bool eight] w fun e w' => ∃ q A c, e = .returned (.pointer (some ⟨q, 0, none⟩)) ∧
      PicAt w' q A c (rowsTo (rchL stl L W H ((ax : Int), (ay : Int))) W H) ∧ Below w.heap.size w w' := by
  have B2 : Below w.heap.size w ((w.alloc (.cells #[.int .i64 ax, .int .i64 ay] 28)).alloc (.cells #[.int .i64 ax, .int .i64 ay] 28)) := Ext.more (Ext.more (Ext.refl _) _) _
  have T1 := Blk.made (w.alloc (.cells #[.int .i64 ax, .int .i64 ay] 28)) 28 #[.int .i64 ax, .int .i64 ay]
  rw [World.size_alloc] at T1
  have RS := Lib.hid (reachS_any ST mp A0 cc rows L W H _ (h.ext B2) hok hL hWr hHr ax ay ha (w.heap.size + 1) 1 (by rw [T1.cell 0]; rfl) (by rw [T1.cell 1]; rfl) T1.lt)
  have HL := Lib.hid (rowsTo_length (rchL stl L W H ((ax : Int), (ay : Int))) W H)
  have E : Hid (rchL stl L W H ((ax : Int), (ay : Int)) = bTo (rO W (rchF (nbD stl) (okI L W H) (W * H) ((ax : Int), (ay : Int)))) (W * H)) := rfl
  rw [← E.out] at RS
  clear h hok hL hWr hHr ha E T1
  generalize rchL stl L W H ((ax : Int), (ay : Int)) = LB at *
  go_enter Try.func120, Try.ntmps120
  go_wp2_with fail
  refine RS.out.mono ?_
  rintro e w3 ⟨A, c, rfl, hown, hb⟩
  have hB := Ext.then_ B2 (Ext.more hb (.cells #[.slice A H c] 112))
  have P3 : Hid (PicAt (w3.alloc (.cells #[.slice A H c] 112)) w3.heap.size A c (rowsTo LB W H)) := by
    refine ⟨by simp, ?_, ?_⟩
    · rw [HL.out]; exact cell_new _ _ _ _
    · exact (Rd.of_own hown).ext (Ext.more (Ext.refl _) (.cells #[.slice A H c] 112))
  clear hown hb RS
  go_wp2_with fail
  go_ret
  exact ⟨w3.heap.size, A, c, rfl, P3.out, hB⟩

/-- Labels as a list of all pixels. -/
def labO (W : Nat) (f : Int × Int → Nat) (i : Nat) : Int := (f (((i % W : Nat) : Int), ((i / W : Nat) : Int)) : Int)
theorem labO_at {W : Nat} (f : Int × Int → Nat) {x y : Nat} (hx : x < W) : labO W f (y * W + x) = (f ((x : Int), (y : Int)) : Int) := by
  rw [labO, plM hx, plD hx]
/-- The labels behind the first m pixels of a part. -/
def labM (O : Nat → Int) (LB : List Bool) (c : Nat) (m i : Nat) : Int := if i < m && LB.getD i false then (c : Int) else O i
theorem labM_zero (O : Nat → Int) (LB : List Bool) (c : Nat) : labM O LB c 0 = O := by funext i; simp [labM]
theorem labM_yes {O : Nat → Int} {LB : List Bool} {c m : Nat} (h : LB.getD m false = true) : labM O LB c (m + 1) = setF (labM O LB c m) m (c : Int) := by
  funext i
  by_cases e : i = m
  · subst e; rw [setF_same]; unfold labM; rw [h]; simp
  · rw [setF_ne e]
    unfold labM
    have : (decide (i < m + 1)) = decide (i < m) := by rw [decide_eq_decide]; omega
    rw [this]
theorem labM_no {O : Nat → Int} {LB : List Bool} {c m : Nat} (h : LB.getD m false = false) : labM O LB c (m + 1) = labM O LB c m := by
  funext i
  by_cases e : i = m
  · subst e; unfold labM; rw [h]; simp
  · unfold labM
    have : (decide (i < m + 1)) = decide (i < m) := by rw [decide_eq_decide]; omega
    rw [this]

set_option maxRecDepth 100000 in
set_option maxHeartbeats 4000000 in
theorem labelsS_any {eight : Bool} {stl : List (Int × Int)} (ST : StT eight stl) (mp : Nat) (A0 : Option Addr) (cc : Nat) (rows : List ByteArray) (L : List Bool) (W H : Nat) (w : World) (h : PicAt w mp A0 cc rows) (hok : picOk rows = true) (hL : picBits rows = L) (hWr : picW rows = W) (hHr : rows.length = H) :
    Calls Try.prog 99 #[.pointer (some ⟨mp, 0, none⟩), .bool eight] w fun e w' =>
      e = .returned (.tuple #[.slice (some ⟨w.heap.size, 0, none⟩) (W * H) (W * H), .int .i64 ((labL (rchB (nbD stl) (okI L W H) (W * H)) (spB L W (W * H))).2 : Nat)]) ∧
      Blk w' w.heap.size 2 (intC (fL (labO W (labL (rchB (nbD stl) (okI L W H) (W * H)) (spB L W (W * H))).1) (W * H))) ∧ Below w.heap.size w w' := by
  obtain ⟨s1, s2, s3, s4⟩ := picOk_sizes hok
  rw [hWr] at s3 s4
  rw [hHr] at s1 s2
  have PX := Lib.hid (fun V (hb : Below w.heap.size w V) => h.ext hb)
  have WD := Lib.hid (fun V (hV : PicAt V mp A0 cc rows) => width_any mp A0 cc rows V hV (by omega))
  have HD := Lib.hid (fun V (hV : PicAt V mp A0 cc rows) => height_any mp A0 cc rows V hV)
  have SPS := Lib.hid (fun V (hV : PicAt V mp A0 cc rows) => spotsS_any mp A0 cc rows L W H V hV hok hL hWr hHr)
  have PT := Lib.hid (fun (ax ay : Nat) V (hV : PicAt V mp A0 cc rows) (ha : okI L W H ((ax : Int), (ay : Int)) = true) => partS_any ST mp A0 cc rows L W H V hV hok hL hWr hHr ax ay ha)
  have RLn : Hid (∀ a, (rchL stl L W H a).length = W * H) := fun a => bTo_length _ _
  have LI := Lib.hid (fun q (A : Option Addr) c a V (hV : PicAt V q A c (rowsTo (rchL stl L W H a) W H)) => listP_any q A c _ V hV (told_ok s3 s4 s1 s2))
  simp only [told_w s1, rowsTo_length] at LI
  have LI2 : Hid (∀ q (A : Option Addr) c a V, PicAt V q A c (rowsTo (rchL stl L W H a) W H) → Calls Try.prog 116 #[.pointer (some ⟨q, 0, none⟩)] V fun e w' => ∃ A c, e = .returned (.slice A (W * H) c) ∧ w'.ownsRow V.heap.size 4 1 (.slice A (W * H) c) (W * H) (bools (rchL stl L W H a)) ∧ Below V.heap.size V w') := by
    intro q A c a V hV
    have := LI.out q A c a V hV
    rwa [told_bits s1 (RLn.out a)] at this
  rw [hWr] at WD
  rw [hHr] at HD
  have nb256 : W * H ≤ 256 := Nat.le_trans (Nat.mul_le_mul s4 s2) (by decide)
  have MEM := Lib.hid (fun s (hs : s ∈ spB L W (W * H)) => okI_iff.2 ((spB_mem s3).1 hs))
  have LBD := Lib.hid (labL_le (rchB (nbD stl) (okI L W H) (W * H)) (spB L W (W * H)))
  have LBS := Lib.hid (labL_succ (rchB (nbD stl) (okI L W H) (W * H)) (spB L W (W * H)))
  have LBE : Hid ((spB L W (W * H)).take (spB L W (W * H)).length = spB L W (W * H)) := List.take_length
  have slb := spB_len L W (W * H)
  have RG : Hid (∀ a i, i < W * H → (rchL stl L W H a).getD i false = rchB (nbD stl) (okI L W H) (W * H) a (((i % W : Nat) : Int), ((i / W : Nat) : Int))) := fun a i hi => bTo_get' hi
  have hmk : ∀ V : World, (Instr.makeSlice 51 (.int .i64 ((W * H : Nat) : Int)) (.int .i64 ((W * H : Nat) : Int))).run Try.prog V = .ok (.slice (some ⟨V.heap.size, 0, none⟩) (W * H) (W * H)) (V.alloc (.cells (intC (fL (fun _ => 0) (W * H))) 2)) := by
    intro V
    obtain ⟨i0, hi0, hz0, hz1, hz2⟩ := info_parts intT.info
    have h := run_make (P := Try.prog) V 51 2 i0 _ Try.underlying51 hi0 hz0 .i64 .i64 ((W * H : Nat) : Int) ((W * H : Nat) : Int) (by omega) (Int.le_refl _) (by rw [hz2]; omega) (by omega)
    rw [h, hz1, Int.toNat_natCast]
    show Result.ok _ (V.alloc (.cells (madeCells #[.int .i64 0] (W * H * 1)) _)) = _
    rw [Nat.mul_one, intC_made]
  have mw : (W : Int) * (H : Int) = ((W * H : Nat) : Int) := by simp
  have mw1 : IntKind.i64.wrap ((W : Int) * (H : Int)) = ((W * H : Nat) : Int) := by rw [mw]; exact IntWalk.i64_in _ (by omega)
  have mw2 : wrap64 ((W : Int) * (H : Int)) = ((W * H : Nat) : Int) := by rw [mw]; exact IntWalk.wrap64_in _ ⟨by omega, by omega⟩
  have T1 := Blk.made w 2 (intC (fL (fun _ => 0) (W * H)))
  have B1 : Below w.heap.size w (w.alloc (.cells (intC (fL (fun _ => 0) (W * H))) 2)) := Ext.more (Ext.refl _) _
  have P0 := Lib.hid h
  clear h hok ST mw hL hWr hHr LI
  generalize spB L W (W * H) = sl at *
  obtain ⟨n, hn⟩ : ∃ n, W * H = n := ⟨_, rfl⟩
  have HNN := Lib.hid hn
  rw [hn] at nb256
  simp only [hn] at hmk mw1 mw2 T1 B1 SPS LI2 RLn MEM LBD LBS LBE slb RG ⊢
  clear hn
  go_enter Try.func99, Try.ntmps99
  go_wp2_with fail
  refine (WD.out _ P0.out).mono ?_
  rintro e w' ⟨rfl, rfl⟩
  go_wp2_with fail
  refine (HD.out _ P0.out).mono ?_
  rintro e w' ⟨rfl, rfl⟩
  go_wp2_with fail
  refine (SPS.out _ (PX.out _ B1)).mono ?_
  rintro e w2 ⟨gs, cs, rfl, hrow, hb2⟩
  have hgs := (hrow.lt gs rfl).1
  rw [World.size_alloc] at hgs
  have S2 : SpAt w2 gs sl := own_spots hrow rfl
  have T2 := T1.under hb2 T1.lt
  have B2 := Ext.then_ B1 hb2
  have e0 : fL (fun _ => (0 : Int)) n = fL (labO W (labL (rchB (nbD stl) (okI L W H) n) (sl.take 0)).1) n := by
    apply List.ext_getElem
    · simp [fL]
    · intro i h1 h2; simp [fL, labO, labL]
  rw [e0] at T2
  obtain ⟨m, hm⟩ : ∃ m, sl.length = m := ⟨_, rfl⟩
  have HM := Lib.hid hm
  rw [hm] at slb hrow
  rw [hm]
  clear hrow hb2 T1 hmk mw1 mw2 SPS P0 WD HD hm e0
  go_wp2_with fail
  go_loopw [8, 10, 11, 12] (fun c i _ _ wr => ∃ k : Nat, k ≤ m ∧ i = .int .i64 k ∧ c = .int .i64 (labL (rchB (nbD stl) (okI L W H) n) (sl.take k)).2 ∧ Blk wr w.heap.size 2 (intC (fL (labO W (labL (rchB (nbD stl) (okI L W H) n) (sl.take k)).1) n)) ∧ SpAt wr gs sl ∧ Below w.heap.size w wr) (fun _ i _ _ _ => m - (intOf i).toNat)
  case atStart => exact ⟨0, Nat.zero_le _, rfl, rfl, T2, S2, B2⟩
  case round =>
    obtain ⟨k, hk, rfl, rfl, T, S, hb⟩ := hrel
    clear T2 S2 B2
    by_cases hlt : k < m
    · have hkl : k < sl.length := by rw [HM.out]; exact hlt
      obtain ⟨c0, c1⟩ := S.2 k hkl
      have hmem := MEM.out _ (List.getElem_mem hkl)
      have LS := Lib.hid (LBS.out k hkl)
      obtain ⟨lb1, lb2⟩ := LBD.out k (by omega)
      have i0 : (0 : Int) ≤ (k : Int) := by omega
      have i1 : (k : Int) < (m : Int) := by omega
      obtain ⟨x, y, hxy, hx, hy, _⟩ := okI_iff.1 hmem
      rw [hxy] at c0 c1 LS hmem
      simp only at c0 c1
      have hpl : y * W + x < n := by rw [← HNN.out]; exact pl_lt hx hy
      generalize hst : labL (rchB (nbD stl) (okI L W H) n) (sl.take k) = st at *
      have HST := Lib.hid hst
      clear hst hxy
      obtain ⟨f, c⟩ := st
      simp only at T lb1 lb2 ⊢
      have fc : wr.cell? ⟨w.heap.size, y * W + x, none⟩ = some (.int .i64 (f ((x : Int), (y : Int)) : Int)) := by
        rw [T.cell, intC_get _ _ (by rw [fL_length]; exact hpl), fL_get, labO_at _ hx]
      obtain ⟨pl, hpe⟩ : ∃ pl, y * W + x = pl := ⟨_, rfl⟩
      have m1 : IntKind.i64.wrap ((y : Int) * W) = (y : Int) * W := IntWalk.i64_in _ (by rw [← Int.natCast_mul]; omega)
      have m2 : IntKind.i64.wrap ((y : Int) * W + x) = (pl : Int) := by rw [← hpe, Int.natCast_add, Int.natCast_mul]; exact IntWalk.i64_in _ (by rw [← Int.natCast_mul]; omega)
      rw [hpe] at fc hpl
      have i2 : (0 : Int) ≤ (pl : Int) := by omega
      have i3 : (pl : Int) < (n : Int) := by omega
      have hgl := S.1
      clear hpe
      have ST := Lib.hid (And.intro T S)
      clear T S
      by_cases hf : 0 < f ((x : Int), (y : Int))
      · have FS : Hid (labL (rchB (nbD stl) (okI L W H) n) (sl.take (k + 1)) = (f, c)) := by rw [Hid, LS.out, labStep, if_pos hf]
        generalize f ((x : Int), (y : Int)) = fv at *
        have t0 : decide ((0 : Int) < (fv : Int)) = true := by simpa using hf
        clear hmem
        go_wp2_with fail
        go_quiet (fail)
        go_wp2_with fail
        go_roundw
        case rel => exact ⟨k + 1, by omega, by go_num, by rw [FS.out], by rw [FS.out]; exact ST.out.1, ST.out.2.ext (Ext.drawN (Ext.refl _) _), Ext.drawN hb _⟩
        case measure => simp [intOf]; omega
      · have FS : Hid (labL (rchB (nbD stl) (okI L W H) n) (sl.take (k + 1)) = (fun q => if rchB (nbD stl) (okI L W H) n ((x : Int), (y : Int)) q then c + 1 else f q, c + 1)) := by rw [Hid, LS.out, labStep, if_neg hf]
        have f0 : f ((x : Int), (y : Int)) = 0 := by omega
        rw [f0] at fc
        have PQ := Lib.hid (fun V (hb : Below w.heap.size w V) => PT.out x y V (PX.out V hb) hmem)
        have LQ := Lib.hid (fun q A c V hV => LI2.out q A c ((x : Int), (y : Int)) V hV)
        have RQ := Lib.hid (RG.out ((x : Int), (y : Int)))
        have RN := Lib.hid (RLn.out ((x : Int), (y : Int)))
        generalize rchL stl L W H ((x : Int), (y : Int)) = LB at *
        generalize rchB (nbD stl) (okI L W H) n ((x : Int), (y : Int)) = R at *
        have mk : IntKind.i64.wrap ((c : Int) + 1) = (c : Int) + 1 := IntWalk.i64_in _ (by omega)
        clear hf f0 hmem LS
        go_wp2_with fail
        go_quiet (fail)
        have c0' : (wr.drewN nq).cell? ⟨gs, k * 2, none⟩ = some (.int .i64 x) := c0
        have c1' : (wr.drewN nq).cell? ⟨gs, k * 2 + 1, none⟩ = some (.int .i64 y) := c1
        have hb1 := Ext.drawN hb nq
        have ST1 : Hid (Blk (wr.drewN nq) w.heap.size 2 (intC (fL (labO W f) n)) ∧ SpAt (wr.drewN nq) gs sl) := ⟨ST.out.1, ST.out.2.ext (Ext.drawN (Ext.refl _) nq)⟩
        clear c0 c1 fc ST m1 m2
        generalize wr.drewN nq = w4 at *
        go_wp2_with fail
        refine (PQ.out _ hb1).mono ?_
        rintro e w5 ⟨q, A5, c5, rfl, P5, hb5⟩
        go_wp2_with fail
        refine (LQ.out _ _ _ _ P5).mono ?_
        rintro e w6 ⟨A6, c6, rfl, own6, hb6⟩
        have hb46 := Ext.then_ hb5 hb6
        have T6 := ST1.out.1.under hb46 ST1.out.1.lt
        have S6 := ST1.out.2.ext hb46
        have B6 := Ext.then_ hb1 hb46
        have R6 := Rd.of_own own6
        have NE6 : Hid (∀ b, A6 = some ⟨b, 0, none⟩ → b ≠ w.heap.size) := by
          intro b hb'
          have := (own6.lt b (by rw [hb']; rfl)).1
          have := hb5.size
          have := hb1.size
          have := ST1.out.1.lt
          omega
        rw [← labM_zero (labO W f) LB (c + 1)] at T6
        clear P5 own6 hb5 hb6 hb46 ST1 PQ LQ c0' c1' hb1
        obtain ⟨wo, rfl⟩ : ∃ wo, wo = wr := ⟨_, rfl⟩
        go_wp2_with fail
        go_loopw [12, 57] (fun _ i wr => ∃ a : Nat, a ≤ n ∧ i = .int .i64 a ∧ Blk wr w.heap.size 2 (intC (fL (labM (labO W f) LB (c + 1) a) n)) ∧ SpAt wr gs sl ∧ Rd wr A6 (bools LB) ∧ Below w.heap.size w wr) (fun _ i _ => n - (intOf i).toNat)
        case atStart => exact ⟨0, Nat.zero_le _, rfl, T6, S6, R6, B6⟩
        case round =>
          obtain ⟨a, ha, rfl, T, S, R1, hb2⟩ := hrel
          clear T6 S6 R6 B6
          by_cases hal : a < n
          · have hal2 : a < LB.length := by rw [RN.out]; exact hal
            obtain ⟨g6, rfl, hg6, hc6⟩ := R1 (by simp [bools]; omega)
            have ne6 := NE6.out g6 rfl
            have v0 := hc6 a (by simpa [bools] using hal2)
            have e0 : (bools LB)[a]'(by simpa [bools] using hal2) = .bool (LB.getD a false) := by simp [bools, List.getD_eq_getElem?_getD, hal2]
            rw [e0] at v0
            have j0 : (0 : Int) ≤ (a : Int) := by omega
            have j1 : (a : Int) < (n : Int) := by omega
            have HH := Lib.hid (And.intro T (And.intro S (And.intro R1 hb2)))
            clear e0 hc6
            cases hbt : LB.getD a false
            · rw [hbt] at v0
              have E := Lib.hid (labM_no (O := labO W f) (c := c + 1) hbt)
              clear T S R1 hb2 hbt
              go_wp2_with fail
              go_roundw
              case rel => exact ⟨a + 1, by omega, by go_num, by rw [E.out]; exact HH.out.1, HH.out.2.1, HH.out.2.2.1, HH.out.2.2.2⟩
              case measure => simp [intOf]; omega
            · rw [hbt] at v0
              have E := Lib.hid (labM_yes (O := labO W f) (c := c + 1) hbt)
              obtain ⟨ov, o0⟩ : ∃ ov, wr.cell? ⟨w.heap.size, a, none⟩ = some ov := ⟨_, by rw [T.cell, intC_get _ _ (by rw [fL_length]; exact hal)]⟩
              have f0 := T.free a
              have T3 := T.store a (.int .i64 ((c + 1 : Nat) : Int))
              rw [intC_set, fL_set] at T3
              have S3 := S.apart (p := ⟨w.heap.size, a, none⟩) (by show w.heap.size ≠ gs; omega) (.int .i64 ((c + 1 : Nat) : Int))
              have R3 : Rd (wr.setCell ⟨w.heap.size, a, none⟩ (.int .i64 ((c + 1 : Nat) : Int))) (some ⟨g6, 0, none⟩) (bools LB) := by
                intro hl
                obtain ⟨g', e', h1, h2⟩ := R1 hl
                cases e'
                exact ⟨g6, rfl, by simpa [World.setCell] using h1, fun i hi => cell_other (by omega) (h2 i hi)⟩
              have B3 := hb2.setCell (p := ⟨w.heap.size, a, none⟩) (Nat.le_refl _) (.int .i64 ((c + 1 : Nat) : Int))
              have ec : ((c + 1 : Nat) : Int) = (c : Int) + 1 := by omega
              rw [ec] at T3 S3 R3 B3
              have H3 := Lib.hid (And.intro T3 (And.intro S3 (And.intro R3 B3)))
              have EC := Lib.hid ec
              clear T S R1 hb2 hbt T3 S3 R3 B3 ec HH
              go_wp2_with fail
              go_roundw
              case rel => exact ⟨a + 1, by omega, by go_num, by rw [E.out, EC.out]; exact H3.out.1, H3.out.2.1, H3.out.2.2.1, H3.out.2.2.2⟩
              case measure => simp [intOf]; omega
          · obtain rfl : a = n := by omega
            have E : Hid (fL (labO W (fun q => if R q = true then c + 1 else f q)) a = fL (labM (labO W f) LB (c + 1) a) a) := by
              apply List.ext_getElem
              · simp [fL]
              · intro i h1 h2
                have hi : i < a := by simpa [fL] using h1
                rw [fL_get, fL_get, labM, RQ.out i hi, labO]
                by_cases hR : R (((i % W : Nat) : Int), ((i / W : Nat) : Int)) = true
                · rw [if_pos hR, hR]; simp [hi]
                · have hR' : R (((i % W : Nat) : Int), ((i / W : Nat) : Int)) = false := Bool.eq_false_iff.2 hR
                  rw [if_neg hR, hR', Bool.and_false, if_neg (by decide)]; rfl
            have HH := Lib.hid (And.intro T (And.intro S hb2))
            clear T S R1 hb2
            go_wp2_with fail
            go_roundw
            case rel => exact ⟨k + 1, by omega, by go_num, by rw [FS.out]; go_num, by rw [FS.out, E.out]; exact HH.out.1, HH.out.2.1, HH.out.2.2⟩
            case measure => simp [intOf]; omega
    · obtain rfl : k = m := by omega
      have LE := LBE.out
      rw [HM.out] at LE
      rw [LE] at T ⊢
      have HH := Lib.hid (And.intro T hb)
      clear T S LE hb
      go_wp2_with fail
      go_ret2
      exact ⟨rfl, HH.out.1, HH.out.2⟩
end Go.Proofs.Ytajepoopicoodaa
