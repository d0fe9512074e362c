/- The end of a way: what letters do, and the program's EndOfWay. The end of a way: the reference's. -/
import Derived.Test.YtajepoopicoodaaPbt
import Derived.Test.YtajepoopicoodaaShelf
import Derived.Deep.CutRange
import Derived.Deep.DeepCutAuto
namespace Go.Proofs.Ytajepoopicoodaa
open Go.RowKit

/-- A letter's number; -1 of another byte. -/
def letK (b : UInt8) : Int := Lib.indexByte [100, 108, 114, 117] b
theorem letK_eq (b : UInt8) : letK b = if b = 100 then 0 else if b = 108 then 1 else if b = 114 then 2 else if b = 117 then 3 else -1 := by
  unfold letK
  simp only [Lib.indexByte, beq_iff_eq]
  by_cases h0 : b = 100
  · subst h0; decide
  by_cases h1 : b = 108
  · subst h1; decide
  by_cases h2 : b = 114
  · subst h2; decide
  by_cases h3 : b = 117
  · subst h3; decide
  simp [h0, h1, h2, h3, Ne.symm h0, Ne.symm h1, Ne.symm h2, Ne.symm h3]
theorem letK_bd (b : UInt8) : letK b = -1 ∨ letK b = 0 ∨ letK b = 1 ∨ letK b = 2 ∨ letK b = 3 := by
  rw [letK_eq]; repeat' split
  all_goals simp
/-- The neighbour to which a letter leads. -/
def stepP (p : Int × Int) (k : Int) : Int × Int := if k = 0 then (p.1, p.2 + 1) else if k = 1 then (p.1 - 1, p.2) else if k = 2 then (p.1 + 1, p.2) else (p.1, p.2 - 1)
/-- Behind one more letter: the place and the greatest number on the way; none where the way leads out. -/
def ewS (G : Nat → Int) (W H : Nat) (s : Option ((Int × Int) × Int)) (b : UInt8) : Option ((Int × Int) × Int) :=
  match s with
  | none => none
  | some (p, h) => if letK b < 0 then none else if inG W H (stepP p (letK b)) = true then some (stepP p (letK b), max h (G (plc W (stepP p (letK b))))) else none
def ewTo (G : Nat → Int) (W H : Nat) (bs : List UInt8) (p : Int × Int) (k : Nat) : Option ((Int × Int) × Int) := (bs.take k).foldl (ewS G W H) (some (p, G (plc W p)))
theorem ewTo_succ {G : Nat → Int} {W H : Nat} {bs : List UInt8} {p : Int × Int} {k : Nat} (h : k < bs.length) : ewTo G W H bs p (k + 1) = ewS G W H (ewTo G W H bs p k) bs[k] := by
  rw [ewTo, List.take_succ_eq_append_getElem h, List.foldl_append]; rfl
theorem ewFold_none (G : Nat → Int) (W H : Nat) (bs : List UInt8) : bs.foldl (ewS G W H) none = none := by
  induction bs with
  | nil => rfl
  | cons b bs ih => exact ih
theorem ewTo_none {G : Nat → Int} {W H : Nat} {bs : List UInt8} {p : Int × Int} {k : Nat} (h : ewTo G W H bs p k = none) : ewTo G W H bs p bs.length = none := by
  have e : bs = bs.take k ++ bs.drop k := (List.take_append_drop k bs).symm
  rw [ewTo, List.take_of_length_le (Nat.le_refl _)]
  conv => lhs; rw [e]
  rw [List.foldl_append]
  show (bs.drop k).foldl (ewS G W H) (ewTo G W H bs p k) = none
  rw [h]; exact ewFold_none _ _ _ _
def ewOk (rows : List (List Int)) (x y : Int) (s : ByteArray) : Bool := inR rows x y && decide (s.size ≤ 1000)
/-- Where a way ends, and its greatest number. -/
def ewV (rows : List (List Int)) (x y : Int) (s : ByteArray) : Option ((Int × Int) × Int) := if ewOk rows x y s then ewTo (gF rows (tabW rows)) (tabW rows) rows.length s.data.toList (x, y) s.data.toList.length else none
/-- The call's value. -/
def ewRet : Option ((Int × Int) × Int) → Value
  | none => .tuple #[.agg #[.int .i64 0, .int .i64 0], .int .i64 0, .bool false]
  | some (p, h) => .tuple #[.agg #[.int .i64 p.1, .int .i64 p.2], .int .i64 h, .bool true]
theorem ew_ret {s t : Option ((Int × Int) × Int)} (h : s = t) : Ending.returned (ewRet t) = .returned (ewRet s) := by rw [h]
theorem GreyAt.of {w : World} {p : Nat} {A : Option Addr} {c : Nat} {rows : List (List Int)} (hB : Blk w p 31 #[.slice A rows.length c]) (hm : MatRd w A rows) : GreyAt w p A c rows := by
  have := hB.cell 0
  simp at this
  exact ⟨hB.lt, this, hm⟩
theorem setF_free {w : World} {g : Nat} {t : TypeId} {cs : Array Value} (h : Blk w g t cs) (i : Nat) : w.frozen? ⟨g, i, none⟩ = false := h.free i

set_option maxHeartbeats 1000000 in
theorem stepped_any (x y k : Int) (w : World) (hx : -1000 ≤ x ∧ x ≤ 1000) (hy : -1000 ≤ y ∧ y ≤ 1000) (hk : k = 0 ∨ k = 1 ∨ k = 2 ∨ k = 3) :
    Calls Try.prog 60 #[.agg #[.int .i64 x, .int .i64 y], .int .i64 k] w fun e w' => e = .returned (.agg #[.int .i64 (stepP (x, y) k).1, .int .i64 (stepP (x, y) k).2]) ∧ Below w.heap.size w w' := by
  have j0 : IntKind.i64.wrap (y + 1) = y + 1 := IntWalk.i64_in _ (by omega)
  have j1 : IntKind.i64.wrap (x - 1) = x - 1 := IntWalk.i64_in _ (by omega)
  have j2 : IntKind.i64.wrap (x + 1) = x + 1 := IntWalk.i64_in _ (by omega)
  have j3 : IntKind.i64.wrap (y - 1) = y - 1 := IntWalk.i64_in _ (by omega)
  rcases hk with rfl | rfl | rfl | rfl
  · go_enter Try.func60, Try.ntmps60
    go_wp2_with fail
    exact bodyPost_ret (v := .agg #[.int .i64 (x), .int .i64 (y + 1)]) (by simp [results, Try.results60, go_sem]) rfl ⟨rfl, Ext.more (Ext.more (Ext.refl _) _) _⟩
  · go_enter Try.func60, Try.ntmps60
    go_wp2_with fail
    exact bodyPost_ret (v := .agg #[.int .i64 (x - 1), .int .i64 (y)]) (by simp [results, Try.results60, go_sem]) rfl ⟨rfl, Ext.more (Ext.more (Ext.refl _) _) _⟩
  · go_enter Try.func60, Try.ntmps60
    go_wp2_with fail
    exact bodyPost_ret (v := .agg #[.int .i64 (x + 1), .int .i64 (y)]) (by simp [results, Try.results60, go_sem]) rfl ⟨rfl, Ext.more (Ext.more (Ext.refl _) _) _⟩
  · go_enter Try.func60, Try.ntmps60
    go_wp2_with fail
    exact bodyPost_ret (v := .agg #[.int .i64 (x), .int .i64 (y - 1)]) (by simp [results, Try.results60, go_sem]) rfl ⟨rfl, Ext.more (Ext.more (Ext.refl _) _) _⟩

/-- What the walk of a way keeps. -/
structure EowI (w : World) (A : Option Addr) (c : Nat) (rows : List (List Int)) (p : Int × Int) (wr : World) : Prop where
  grey : Blk wr w.heap.size 31 #[.slice A rows.length c]
  spot : Blk wr (w.heap.size + 1) 28 #[.int .i64 p.1, .int .i64 p.2]
  res : Blk wr (w.heap.size + 2) 28 #[.int .i64 0, .int .i64 0]
  ext : Below w.heap.size w wr
theorem EowI.step {w : World} {A : Option Addr} {c : Nat} {rows : List (List Int)} {p : Int × Int} {wr w' : World} (h : EowI w A c rows p wr) (hb : Below wr.heap.size wr w') : EowI w A c rows p w' :=
  ⟨h.grey.under hb h.grey.lt, h.spot.under hb h.spot.lt, h.res.under hb h.res.lt, Ext.then_ h.ext hb⟩
theorem EowI.greyAt {w : World} {A : Option Addr} {c : Nat} {rows : List (List Int)} {p : Int × Int} {wr : World} (h : EowI w A c rows p wr) (hm : MatRd w A rows) : GreyAt wr w.heap.size A c rows := GreyAt.of h.grey (hm.ext h.ext)
theorem EowI.turn {w : World} {A : Option Addr} {c : Nat} {rows : List (List Int)} {p : Int × Int} {wr : World} (h : EowI w A c rows p wr) (x y : Int) : EowI w A c rows (x, y) ((wr.setCell ⟨w.heap.size + 1, 0, none⟩ (.int .i64 x)).setCell ⟨w.heap.size + 1, 1, none⟩ (.int .i64 y)) := by
  refine ⟨(h.grey.apart (p := ⟨w.heap.size + 1, 0, none⟩) (by show w.heap.size ≠ w.heap.size + 1; omega) _).apart (p := ⟨w.heap.size + 1, 1, none⟩) (by show w.heap.size ≠ w.heap.size + 1; omega) _, ?_,
    (h.res.apart (p := ⟨w.heap.size + 1, 0, none⟩) (by show w.heap.size + 2 ≠ w.heap.size + 1; omega) _).apart (p := ⟨w.heap.size + 1, 1, none⟩) (by show w.heap.size + 2 ≠ w.heap.size + 1; omega) _,
    (h.ext.setCell (p := ⟨w.heap.size + 1, 0, none⟩) (by show w.heap.size ≤ w.heap.size + 1; omega) _).setCell (p := ⟨w.heap.size + 1, 1, none⟩) (by show w.heap.size ≤ w.heap.size + 1; omega) _⟩
  have := (h.spot.store 0 (.int .i64 x)).store 1 (.int .i64 y)
  simpa using this

set_option maxRecDepth 100000 in
set_option maxHeartbeats 2000000 in
theorem endOfWay_any (A : Option Addr) (c : Nat) (rows : List (List Int)) (x y : Int) (s : ByteArray) (w : World) (h : MatRd w A rows) (hn : rows.length ≤ 1000000000) (hr : ∀ i (h : i < rows.length), rows[i].length ≤ 1000000000) :
    Calls Try.prog 19 #[.agg #[.slice A rows.length c], .agg #[.int .i64 x, .int .i64 y], .string s] w fun e w' => e = .returned (ewRet (ewV rows x y s)) ∧ Below w.heap.size w w' := by
  obtain ⟨wB, hwB⟩ : ∃ wB, ((w.alloc (.cells #[.slice A rows.length c] 31)).alloc (.cells #[.int .i64 x, .int .i64 y] 28)).alloc (.cells #[.int .i64 0, .int .i64 0] 28) = wB := ⟨_, rfl⟩
  have I0 : EowI w A c rows (x, y) wB := by
    rw [← hwB]
    refine ⟨((Blk.made _ _ _).more _).more _, ?_, ?_, Ext.more (Ext.more (Ext.more (Ext.refl _) _) _) _⟩
    · have := (Blk.made (w.alloc (.cells #[.slice A rows.length c] 31)) 28 #[.int .i64 x, .int .i64 y]).more (.cells #[.int .i64 0, .int .i64 0] 28)
      simpa using this
    · have := Blk.made ((w.alloc (.cells #[.slice A rows.length c] 31)).alloc (.cells #[.int .i64 x, .int .i64 y] 28)) 28 #[.int .i64 0, .int .i64 0]
      simpa using this
  have VG := Lib.hid (fun V (hV : Below w.heap.size w V) => validGrey_any A c rows V (h.ext hV) hn hr)
  have HM := Lib.hid h
  have Z2 := Lib.hid (fun V (hI : Blk V (w.heap.size + 2) 28 #[.int .i64 0, .int .i64 0]) => And.intro (hI.free 0) (hI.free 1))
  obtain ⟨W, hW⟩ : ∃ W, tabW rows = W := ⟨_, rfl⟩
  obtain ⟨H, hH⟩ : ∃ H, rows.length = H := ⟨_, rfl⟩
  rw [hH] at VG hwB ⊢
  have k0 := I0.grey.cell 0
  have k1 := I0.spot.cell 0
  have k2 := I0.spot.cell 1
  rw [hH] at k0
  simp at k0 k1 k2
  cases hg : greyOk rows
  · have F : Hid (ewV rows x y s = none) := by simp [Hid, ewV, ewOk, inR, hg]
    rw [hg] at VG
    have HI := Lib.hid I0
    clear hg hn hr h hW I0
    go_enter Try.func19, Try.ntmps19
    go_wp2_with fail
    try simp only [hwB]
    refine (VG.out _ HI.out.ext).mono ?_
    rintro e w2 ⟨rfl, hb⟩
    have I2 := HI.out.step hb
    have f0 := I2.res.free 0
    have f1 := I2.res.free 1
    have r0 := I2.res.cell 0
    have r1 := I2.res.cell 1
    simp at r0 r1
    have R2 := (I2.res.store 0 (.int .i64 0)).store 1 (.int .i64 0)
    have s0 := R2.cell 0
    have s1 := R2.cell 1
    simp at s0 s1
    have BX := Lib.hid ((I2.ext.setCell (p := ⟨w.heap.size + 2, 0, none⟩) (by show w.heap.size ≤ w.heap.size + 2; omega) (.int .i64 0)).setCell (p := ⟨w.heap.size + 2, 1, none⟩) (by show w.heap.size ≤ w.heap.size + 2; omega) (.int .i64 0))
    clear R2 I2
    go_wp2_with fail
    refine bodyPost_ret (v := .tuple #[.agg #[.int .i64 0, .int .i64 0], .int .i64 0, .bool false]) (by simp [results, Try.results19, go_sem, s0, s1]) rfl ⟨ew_ret F.out, BX.out⟩
  rw [hg] at VG
  obtain ⟨s1, s2, s3, s4⟩ := tab_sizes hg
  have HS := Lib.hid (fun V (hV : GreyAt V w.heap.size A c rows) (x y : Int) => g_has hV hW hH (by omega) (by omega) (by omega) x y)
  cases ha : inG W H (x, y)
  · have F : Hid (ewV rows x y s = none) := by simp [Hid, ewV, ewOk, inR, hW, hH, ha]
    have HA := Lib.hid (fun V (hV : GreyAt V w.heap.size A c rows) => HS.out V hV x y)
    rw [ha] at HA
    have HI := Lib.hid I0
    clear hg hn hr h hW I0 s1 s2 s3 s4 ha HS
    go_enter Try.func19, Try.ntmps19
    go_wp2_with fail
    try simp only [hwB]
    refine (VG.out _ HI.out.ext).mono ?_
    rintro e w2 ⟨rfl, hb⟩
    have I2 := HI.out.step hb
    have q1 := I2.spot.cell 0
    have q2 := I2.spot.cell 1
    simp at q1 q2
    have HA2 := Lib.hid (HA.out w2 (I2.greyAt HM.out))
    have HI2 := Lib.hid I2
    clear I2
    go_wp2_with fail
    refine HA2.out.mono ?_
    rintro e w3 ⟨rfl, hb3⟩
    have I2 := HI2.out.step hb3
    have f0 := I2.res.free 0
    have f1 := I2.res.free 1
    have r0 := I2.res.cell 0
    have r1 := I2.res.cell 1
    simp at r0 r1
    have R2 := (I2.res.store 0 (.int .i64 0)).store 1 (.int .i64 0)
    have s0 := R2.cell 0
    have s1 := R2.cell 1
    simp at s0 s1
    have BX := Lib.hid ((I2.ext.setCell (p := ⟨w.heap.size + 2, 0, none⟩) (by show w.heap.size ≤ w.heap.size + 2; omega) (.int .i64 0)).setCell (p := ⟨w.heap.size + 2, 1, none⟩) (by show w.heap.size ≤ w.heap.size + 2; omega) (.int .i64 0))
    clear R2 I2
    go_wp2_with fail
    refine bodyPost_ret (v := .tuple #[.agg #[.int .i64 0, .int .i64 0], .int .i64 0, .bool false]) (by simp [results, Try.results19, go_sem, s0, s1]) rfl ⟨ew_ret F.out, BX.out⟩
  by_cases hsz : s.size ≤ 1000
  case neg =>
    have F : Hid (ewV rows x y s = none) := by simp [Hid, ewV, ewOk, hsz]
    have hsz1 : (1000 : Int) < (s.size : Int) := by omega
    have HA := Lib.hid (fun V (hV : GreyAt V w.heap.size A c rows) => HS.out V hV x y)
    rw [ha] at HA
    have HI := Lib.hid I0
    clear hg hn hr h hW I0 s1 s2 s3 s4 ha HS hsz
    go_enter Try.func19, Try.ntmps19
    go_wp2_with fail
    try simp only [hwB]
    refine (VG.out _ HI.out.ext).mono ?_
    rintro e w2 ⟨rfl, hb⟩
    have I2 := HI.out.step hb
    have q1 := I2.spot.cell 0
    have q2 := I2.spot.cell 1
    simp at q1 q2
    have HA2 := Lib.hid (HA.out w2 (I2.greyAt HM.out))
    have HI2 := Lib.hid I2
    clear I2
    go_wp2_with fail
    refine HA2.out.mono ?_
    rintro e w3 ⟨rfl, hb3⟩
    have I2 := HI2.out.step hb3
    have f0 := I2.res.free 0
    have f1 := I2.res.free 1
    have r0 := I2.res.cell 0
    have r1 := I2.res.cell 1
    simp at r0 r1
    have R2 := (I2.res.store 0 (.int .i64 0)).store 1 (.int .i64 0)
    have s0 := R2.cell 0
    have s1 := R2.cell 1
    simp at s0 s1
    have BX := Lib.hid ((I2.ext.setCell (p := ⟨w.heap.size + 2, 0, none⟩) (by show w.heap.size ≤ w.heap.size + 2; omega) (.int .i64 0)).setCell (p := ⟨w.heap.size + 2, 1, none⟩) (by show w.heap.size ≤ w.heap.size + 2; omega) (.int .i64 0))
    clear R2 I2
    go_wp2_with fail
    refine bodyPost_ret (v := .tuple #[.agg #[.int .i64 0, .int .i64 0], .int .i64 0, .bool false]) (by simp [results, Try.results19, go_sem, s0, s1]) rfl ⟨ew_ret F.out, BX.out⟩
  have F : Hid (ewV rows x y s = ewTo (gF rows W) W H s.data.toList (x, y) s.data.toList.length) := by simp [Hid, ewV, ewOk, inR, hW, hH, ha, hg, hsz]
  have hsz1 : ¬ (1000 : Int) < (s.size : Int) := by omega
  have HR := Lib.hid (fun y (hy : y < rows.length) => tab_row hg y hy)
  have HA := Lib.hid (fun V (hV : GreyAt V w.heap.size A c rows) => HS.out V hV x y)
  rw [ha] at HA
  have HAT := Lib.hid (fun V (hV : GreyAt V w.heap.size A c rows) (p : Int × Int) (hp : inG W H p = true) => (show Calls Try.prog 58 #[.pointer (some ⟨w.heap.size, 0, none⟩), .agg #[.int .i64 p.1, .int .i64 p.2]] V fun e w' => e = .returned (.int .i64 (gF rows W (plc W p))) ∧ Below V.heap.size V w' from by
    obtain ⟨p1, p2⟩ := p
    obtain ⟨a, b, rfl, rfl, h1, h2, h3⟩ := inG_nat hp
    rw [h3]
    exact g_at hV (fun y hy => by rw [← hW]; exact HR.out y hy) h1 (by rw [hH]; exact h2)))
  have HI := Lib.hid I0
  have INP := Lib.hid ha
  have hs4 : W ≤ 16 := by omega
  clear hg hn hr h hW I0 s1 s3 s4 ha HR
  generalize gF rows W = G at *
  go_enter Try.func19, Try.ntmps19
  go_wp2_with fail
  try simp only [hwB]
  refine (VG.out _ HI.out.ext).mono ?_
  rintro e w2 ⟨rfl, hb⟩
  have I2 := HI.out.step hb
  have q1 := I2.spot.cell 0
  have q2 := I2.spot.cell 1
  simp at q1 q2
  have HA2 := Lib.hid (HA.out w2 (I2.greyAt HM.out))
  have HI2 := Lib.hid I2
  clear I2
  go_wp2_with fail
  refine HA2.out.mono ?_
  rintro e w3 ⟨rfl, hb3⟩
  have I3 := HI2.out.step hb3
  clear q1 q2 HA2
  have q1 := I3.spot.cell 0
  have q2 := I3.spot.cell 1
  simp at q1 q2
  have HA3 := Lib.hid (HAT.out w3 (I3.greyAt HM.out) (x, y) INP.out)
  have HI3 := Lib.hid I3
  clear I3
  go_wp2_with fail
  refine HA3.out.mono ?_
  rintro e w4 ⟨rfl, hb4⟩
  have I4 := Lib.hid (HI3.out.step hb4)
  clear q1 q2 HA3 hb hb3 hb4 k0 k1 k2 HI HI2 HI3
  have HN : Hid (s.data.toList.length = s.size) := rfl
  go_wp2_with fail
  go_loopw [9, 10, 11, 30] (fun hi _ _ i wr => ∃ (k : Nat) (p1 p2 h : Int), k ≤ s.size ∧ i = .int .i64 k ∧ hi = .int .i64 h ∧ Hid (ewTo G W H s.data.toList (x, y) k = some ((p1, p2), h)) ∧ inG W H (p1, p2) = true ∧ EowI w A c rows (p1, p2) wr) (fun _ _ _ i _ => s.size - (intOf i).toNat)
  case atStart => exact ⟨0, x, y, _, Nat.zero_le _, rfl, rfl, rfl, INP.out, I4.out⟩
  case round =>
    obtain ⟨k, p1, p2, h, hk, rfl, rfl, hew, hin, hI⟩ := hrel
    by_cases hlt : k < s.size
    · obtain ⟨b, hb⟩ : ∃ b, s[k] = b := ⟨_, rfl⟩
      have EW : Hid (ewTo G W H s.data.toList (x, y) (k + 1) = ewS G W H (some ((p1, p2), h)) b) := by
        have e := ewTo_succ (G := G) (W := W) (H := H) (bs := s.data.toList) (p := (x, y)) (k := k) (by rw [HN.out]; exact hlt)
        rw [hew.out] at e
        rw [Hid, e, ← hb]; rfl
      have IB := Lib.hid (fun V => (Try.strings_IndexByte ⟨#[100, 108, 114, 117]⟩ (((s[k]'hlt).toNat : Nat) : Int) V).mono (fun e w' hh => (show e = .returned (.int .i64 (letK b)) ∧ w' = V from by
        rw [hh.1, ← hb]
        refine ⟨?_, hh.2⟩
        simp [letK])))
      have NX := Lib.hid (fun (hh : ewTo G W H s.data.toList (x, y) (k + 1) = none) => ewTo_none hh)
      have HB := Lib.hid hb
      clear hb
      have lk := letK_bd b
      have i0 : (0 : Int) ≤ (k : Int) := by omega
      have i1 : (k : Int) < (s.size : Int) := by omega
      obtain ⟨⟨g1, g2⟩, g3, g4⟩ := inG_iff.1 hin
      simp only at g1 g2 g3 g4
      by_cases hneg : letK b < 0
      · have NO := Lib.hid (NX.out (by rw [EW.out, ewS]; simp [hneg]))
        have e1 : letK b = -1 := by omega
        rw [e1] at IB
        clear lk hneg e1 EW NX
        go_wp2_with fail
        refine (IB.out _).mono ?_
        rintro e w5 ⟨rfl, rfl⟩
        have f0 := hI.res.free 0
        have f1 := hI.res.free 1
        have r0 := hI.res.cell 0
        have r1 := hI.res.cell 1
        simp at r0 r1
        have R2 := (hI.res.store 0 (.int .i64 0)).store 1 (.int .i64 0)
        have s0 := R2.cell 0
        have s1 := R2.cell 1
        simp at s0 s1
        have BX := Lib.hid ((hI.ext.setCell (p := ⟨w.heap.size + 2, 0, none⟩) (by show w.heap.size ≤ w.heap.size + 2; omega) (.int .i64 0)).setCell (p := ⟨w.heap.size + 2, 1, none⟩) (by show w.heap.size ≤ w.heap.size + 2; omega) (.int .i64 0))
        clear R2
        go_wp2_with fail
        refine bodyPost_ret (v := .tuple #[.agg #[.int .i64 0, .int .i64 0], .int .i64 0, .bool false]) (by simp [results, Try.results19, go_sem, s0, s1]) rfl ⟨by rw [F.out, NO.out]; rfl, BX.out⟩
      · have lk2 : letK b = 0 ∨ letK b = 1 ∨ letK b = 2 ∨ letK b = 3 := by omega
        have ST := Lib.hid (fun V => stepped_any p1 p2 (letK b) V (by omega) (by omega) lk2)
        obtain ⟨q, hq⟩ : ∃ q, stepP (p1, p2) (letK b) = q := ⟨_, rfl⟩
        have EW2 : Hid (ewTo G W H s.data.toList (x, y) (k + 1) = if inG W H q = true then some (q, max h (G (plc W q))) else none) := by
          rw [Hid, EW.out, ewS]; simp [hneg, hq]
        rw [hq] at ST
        clear hq EW lk2
        obtain ⟨q1, q2⟩ := q
        simp only at ST
        have q3 := hI.spot.cell 0
        have q4 := hI.spot.cell 1
        simp at q3 q4
        have HI0 := Lib.hid hI
        generalize letK b = κ at *
        have hneg2 : 0 ≤ κ := by omega
        clear hI lk hneg
        go_wp2_with fail
        refine (IB.out _).mono ?_
        rintro e w5 ⟨rfl, rfl⟩
        go_wp2_with fail
        refine (ST.out _).mono ?_
        rintro e w6 ⟨rfl, hb6⟩
        have I6 := HI0.out.step hb6
        have H6 := Lib.hid (HS.out w6 (I6.greyAt HM.out) q1 q2)
        have HI6 := Lib.hid I6
        clear I6 q3 q4
        cases hin2 : inG W H (q1, q2)
        · rw [hin2] at H6
          have NO := Lib.hid (NX.out (by rw [EW2.out, hin2]; rfl))
          go_wp2_with fail
          refine H6.out.mono ?_
          rintro e w7 ⟨rfl, hb7⟩
          have I7 := HI6.out.step hb7
          have f0 := I7.res.free 0
          have f1 := I7.res.free 1
          have r0 := I7.res.cell 0
          have r1 := I7.res.cell 1
          simp at r0 r1
          have R2 := (I7.res.store 0 (.int .i64 0)).store 1 (.int .i64 0)
          have s0 := R2.cell 0
          have s1 := R2.cell 1
          simp at s0 s1
          have BX := Lib.hid ((I7.ext.setCell (p := ⟨w.heap.size + 2, 0, none⟩) (by show w.heap.size ≤ w.heap.size + 2; omega) (.int .i64 0)).setCell (p := ⟨w.heap.size + 2, 1, none⟩) (by show w.heap.size ≤ w.heap.size + 2; omega) (.int .i64 0))
          clear R2
          go_wp2_with fail
          refine bodyPost_ret (v := .tuple #[.agg #[.int .i64 0, .int .i64 0], .int .i64 0, .bool false]) (by simp [results, Try.results19, go_sem, s0, s1]) rfl ⟨by rw [F.out, NO.out]; rfl, BX.out⟩
        · rw [hin2] at H6
          go_wp2_with fail
          refine H6.out.mono ?_
          rintro e w7 ⟨rfl, hb7⟩
          have I7 := HI6.out.step hb7
          have q3 := I7.spot.cell 0
          have q4 := I7.spot.cell 1
          simp at q3 q4
          have HI7 := Lib.hid I7
          clear I7 H6 hb7 hb6 HI6
          go_wp2_with fail
          refine (ST.out _).mono ?_
          rintro e w8 ⟨rfl, hb8⟩
          have I8 := HI7.out.step hb8
          clear q3 q4
          have q3 := I8.spot.cell 0
          have q4 := I8.spot.cell 1
          simp at q3 q4
          have f3 := I8.spot.free 0
          have f4 := I8.spot.free 1
          have I9 := I8.turn q1 q2
          have q5 := I9.spot.cell 0
          have q6 := I9.spot.cell 1
          simp at q5 q6
          have A9 := Lib.hid (HAT.out _ (I9.greyAt HM.out) (q1, q2) hin2)
          have HI9 := Lib.hid I9
          clear I8 I9
          go_wp2_with fail
          refine A9.out.mono ?_
          rintro e w9 ⟨rfl, hb9⟩
          have I10 := Lib.hid (HI9.out.step hb9)
          clear q3 q4 q5 q6 A9
          go_wp2_with fail
          go_roundw
          case rel => exact ⟨k + 1, q1, q2, max h (G (plc W (q1, q2))), by omega, by go_num, rfl, by rw [Hid, EW2.out, hin2]; rfl, hin2, I10.out⟩
          case measure => simp [intOf]; omega
    · obtain rfl : k = s.size := by omega
      have YES : Hid (ewV rows x y s = some ((p1, p2), h)) := by rw [Hid, F.out, HN.out, hew.out]
      have q3 := hI.spot.cell 0
      have q4 := hI.spot.cell 1
      have f0 := hI.res.free 0
      have f1 := hI.res.free 1
      have r0 := hI.res.cell 0
      have r1 := hI.res.cell 1
      simp at q3 q4 r0 r1
      have R2 := (hI.res.store 0 (.int .i64 p1)).store 1 (.int .i64 p2)
      have s0 := R2.cell 0
      have s1 := R2.cell 1
      simp at s0 s1
      have BX := Lib.hid ((hI.ext.setCell (p := ⟨w.heap.size + 2, 0, none⟩) (by show w.heap.size ≤ w.heap.size + 2; omega) (.int .i64 p1)).setCell (p := ⟨w.heap.size + 2, 1, none⟩) (by show w.heap.size ≤ w.heap.size + 2; omega) (.int .i64 p2))
      clear R2
      go_wp2_with fail
      refine bodyPost_ret (v := .tuple #[.agg #[.int .i64 p1, .int .i64 p2], .int .i64 h, .bool true]) (by simp [results, Try.results19, go_sem, s0, s1]) rfl ⟨by rw [YES.out]; rfl, BX.out⟩
end Go.Proofs.Ytajepoopicoodaa

namespace Go.Proofs.Ytajepoopicoodaa
open Go.RowKit

def stL : List (Int × Int) := [(0, 1), (-1, 0), (1, 0), (0, -1)]
/-- The index of a letter, 4 of another byte. -/
def letN (b : UInt8) : Nat := if b = 100 then 0 else if b = 108 then 1 else if b = 114 then 2 else if b = 117 then 3 else 4
theorem letN_K (b : UInt8) : letK b = if letN b = 4 then -1 else (letN b : Int) := by
  rw [letK_eq, letN]
  split <;> (try rfl)
  split <;> (try rfl)
  split <;> (try rfl)
  split <;> rfl
theorem letN_le (b : UInt8) : letN b ≤ 4 := by unfold letN; repeat' split
                                               all_goals omega
theorem letN_not (b : UInt8) : (0 < letN b → ((100 : Int) == ((b.toNat : Nat) : Int)) = false) ∧ (1 < letN b → ((108 : Int) == ((b.toNat : Nat) : Int)) = false) ∧ (2 < letN b → ((114 : Int) == ((b.toNat : Nat) : Int)) = false) ∧ (3 < letN b → ((117 : Int) == ((b.toNat : Nat) : Int)) = false) := by
  have key : ∀ (c : UInt8), b ≠ c → ((c.toNat : Int) == ((b.toNat : Nat) : Int)) = false := fun c h => by
    simp only [beq_eq_false_iff_ne, ne_eq]
    intro e
    exact h (UInt8.toNat_inj.1 (by omega))
  refine ⟨fun h => key 100 (fun e => by subst e; simp [letN] at h), fun h => key 108 (fun e => by subst e; simp [letN] at h), fun h => key 114 (fun e => by subst e; simp [letN] at h), fun h => key 117 (fun e => by subst e; simp [letN] at h)⟩
theorem letN_is (b : UInt8) : (letN b = 0 → ((b.toNat : Nat) : Int) = 100) ∧ (letN b = 1 → ((b.toNat : Nat) : Int) = 108) ∧ (letN b = 2 → ((b.toNat : Nat) : Int) = 114) ∧ (letN b = 3 → ((b.toNat : Nat) : Int) = 117) := by
  unfold letN
  refine ⟨?_, ?_, ?_, ?_⟩ <;> intro h <;> (repeat' split at h) <;> (try omega) <;> (rename_i e; subst e; rfl)
theorem stL_step (p : Int × Int) (k : Nat) (h : k < 4) : stepP p (k : Int) = (p.1 + (stL[k]'h).1, p.2 + (stL[k]'h).2) ∧ -1 ≤ (stL[k]'h).1 ∧ (stL[k]'h).1 ≤ 1 ∧ -1 ≤ (stL[k]'h).2 ∧ (stL[k]'h).2 ≤ 1 := by
  match k, h with
  | 0, _ => simp [stepP, stL]
  | 1, _ => simp [stepP, stL]; omega
  | 2, _ => simp [stepP, stL]
  | 3, _ => simp [stepP, stL]; omega
theorem lettersS_any (w : World) : Calls Try.prog 53 #[] w fun e w' => e = .returned (.tuple #[.string ⟨#[100, 108, 114, 117]⟩, .slice (some ⟨w.heap.size, 0, none⟩) 4 4]) ∧ w' = w.alloc (.cells (spC stL) 28) := by
  go_enter Try.func53, Try.ntmps53
  go_wp2_with fail
  go_ret2
  exact ⟨rfl, rfl⟩

theorem EowI.one0 {w : World} {A : Option Addr} {c : Nat} {rows : List (List Int)} {p : Int × Int} {wr : World} (h : EowI w A c rows p wr) (x : Int) : EowI w A c rows (x, p.2) (wr.setCell ⟨w.heap.size + 1, 0, none⟩ (.int .i64 x)) := by
  refine ⟨h.grey.apart (p := ⟨w.heap.size + 1, 0, none⟩) (by show w.heap.size ≠ w.heap.size + 1; omega) _, ?_, h.res.apart (p := ⟨w.heap.size + 1, 0, none⟩) (by show w.heap.size + 2 ≠ w.heap.size + 1; omega) _, h.ext.setCell (p := ⟨w.heap.size + 1, 0, none⟩) (by show w.heap.size ≤ w.heap.size + 1; omega) _⟩
  have := h.spot.store 0 (.int .i64 x)
  simpa using this
theorem EowI.one1 {w : World} {A : Option Addr} {c : Nat} {rows : List (List Int)} {p : Int × Int} {wr : World} (h : EowI w A c rows p wr) (x : Int) : EowI w A c rows (p.1, x) (wr.setCell ⟨w.heap.size + 1, 1, none⟩ (.int .i64 x)) := by
  refine ⟨h.grey.apart (p := ⟨w.heap.size + 1, 1, none⟩) (by show w.heap.size ≠ w.heap.size + 1; omega) _, ?_, h.res.apart (p := ⟨w.heap.size + 1, 1, none⟩) (by show w.heap.size + 2 ≠ w.heap.size + 1; omega) _, h.ext.setCell (p := ⟨w.heap.size + 1, 1, none⟩) (by show w.heap.size ≤ w.heap.size + 1; omega) _⟩
  have := h.spot.store 1 (.int .i64 x)
  simpa using this
set_option maxRecDepth 100000 in
set_option maxHeartbeats 4000000 in
theorem endOfWayS_any (A : Option Addr) (c : Nat) (rows : List (List Int)) (x y : Int) (s : ByteArray) (w : World) (h : MatRd w A rows) (hn : rows.length ≤ 1000000000) (hr : ∀ i (h : i < rows.length), rows[i].length ≤ 1000000000) :
    Calls Try.prog 16 #[.agg #[.slice A rows.length c], .agg #[.int .i64 x, .int .i64 y], .string s] w fun e w' => e = .returned (ewRet (ewV rows x y s)) ∧ Below w.heap.size w w' := by
  obtain ⟨wB, hwB⟩ : ∃ wB, ((w.alloc (.cells #[.slice A rows.length c] 31)).alloc (.cells #[.int .i64 x, .int .i64 y] 28)).alloc (.cells #[.int .i64 0, .int .i64 0] 28) = wB := ⟨_, rfl⟩
  have I0 : EowI w A c rows (x, y) wB := by
    rw [← hwB]
    refine ⟨((Blk.made _ _ _).more _).more _, ?_, ?_, Ext.more (Ext.more (Ext.more (Ext.refl _) _) _) _⟩
    · have := (Blk.made (w.alloc (.cells #[.slice A rows.length c] 31)) 28 #[.int .i64 x, .int .i64 y]).more (.cells #[.int .i64 0, .int .i64 0] 28)
      simpa using this
    · have := Blk.made ((w.alloc (.cells #[.slice A rows.length c] 31)).alloc (.cells #[.int .i64 x, .int .i64 y] 28)) 28 #[.int .i64 0, .int .i64 0]
      simpa using this
  have HM := Lib.hid h
  have VG := Lib.hid (fun V (hV : GreyAt V w.heap.size A c rows) => isGreyS_any w.heap.size A c rows V hV hn hr)
  obtain ⟨W, hW⟩ : ∃ W, tabW rows = W := ⟨_, rfl⟩
  obtain ⟨H, hH⟩ : ∃ H, rows.length = H := ⟨_, rfl⟩
  rw [hH] at hwB ⊢
  have k0 := I0.grey.cell 0
  have k1 := I0.spot.cell 0
  have k2 := I0.spot.cell 1
  rw [hH] at k0
  simp at k0 k1 k2
  cases hg : greyOk rows
  · have F : Hid (ewV rows x y s = none) := by simp [Hid, ewV, ewOk, inR, hg]
    rw [hg] at VG
    have HI := Lib.hid I0
    have VG1 := Lib.hid (VG.out _ (I0.greyAt HM.out))
    clear hg hn hr h hW I0 VG
    go_enter Try.func16, Try.ntmps16
    go_wp2_with fail
    try simp only [hwB]
    refine VG1.out.mono ?_
    rintro e w2 ⟨rfl, nq, rfl⟩
    have I2 := HI.out.step (Ext.drawN (Ext.refl _) nq)
    have f0 := I2.res.free 0
    have f1 := I2.res.free 1
    have r0 := I2.res.cell 0
    have r1 := I2.res.cell 1
    simp at r0 r1
    have R2 := (I2.res.store 0 (.int .i64 0)).store 1 (.int .i64 0)
    have s0 := R2.cell 0
    have s1 := R2.cell 1
    simp at s0 s1
    have BX := Lib.hid ((I2.ext.setCell (p := ⟨w.heap.size + 2, 0, none⟩) (by show w.heap.size ≤ w.heap.size + 2; omega) (.int .i64 0)).setCell (p := ⟨w.heap.size + 2, 1, none⟩) (by show w.heap.size ≤ w.heap.size + 2; omega) (.int .i64 0))
    clear R2
    go_wp2_with fail
    refine bodyPost_ret (v := .tuple #[.agg #[.int .i64 0, .int .i64 0], .int .i64 0, .bool false]) (by simp [results, Try.results16, go_sem, s0, s1]) rfl ⟨by rw [F.out]; rfl, BX.out⟩
  rw [hg] at VG
  have VG1 := Lib.hid (VG.out _ (I0.greyAt HM.out))
  clear VG
  by_cases hsz : s.size ≤ 1000
  case neg =>
    have F : Hid (ewV rows x y s = none) := by simp [Hid, ewV, ewOk, hsz]
    have hsz1 : (1000 : Int) < (s.size : Int) := by omega
    have HI := Lib.hid I0
    clear hg hn hr h hW I0 hsz
    go_enter Try.func16, Try.ntmps16
    go_wp2_with fail
    try simp only [hwB]
    refine VG1.out.mono ?_
    rintro e w2 ⟨rfl, nq, rfl⟩
    have I2 := HI.out.step (Ext.drawN (Ext.refl _) nq)
    have f0 := I2.res.free 0
    have f1 := I2.res.free 1
    have r0 := I2.res.cell 0
    have r1 := I2.res.cell 1
    simp at r0 r1
    have R2 := (I2.res.store 0 (.int .i64 0)).store 1 (.int .i64 0)
    have s0 := R2.cell 0
    have s1 := R2.cell 1
    simp at s0 s1
    have BX := Lib.hid ((I2.ext.setCell (p := ⟨w.heap.size + 2, 0, none⟩) (by show w.heap.size ≤ w.heap.size + 2; omega) (.int .i64 0)).setCell (p := ⟨w.heap.size + 2, 1, none⟩) (by show w.heap.size ≤ w.heap.size + 2; omega) (.int .i64 0))
    clear R2
    go_wp2_with fail
    refine bodyPost_ret (v := .tuple #[.agg #[.int .i64 0, .int .i64 0], .int .i64 0, .bool false]) (by simp [results, Try.results16, go_sem, s0, s1]) rfl ⟨by rw [F.out]; rfl, BX.out⟩
  have hsz1 : ¬ (1000 : Int) < (s.size : Int) := by omega
  obtain ⟨s1, s2, s3, s4⟩ := tab_sizes hg
  have PL := Lib.hid (fun V (hV : GreyAt V w.heap.size A c rows) (x y : Int) => placeS_any w.heap.size A c rows W H x y V hV hW hH (by omega) (by omega) (by omega))
  cases ha : inG W H (x, y)
  · have F : Hid (ewV rows x y s = none) := by simp [Hid, ewV, ewOk, inR, hW, hH, ha]
    have HA := Lib.hid (fun V (hV : GreyAt V w.heap.size A c rows) => PL.out V hV x y)
    rw [ha] at HA
    have HI := Lib.hid I0
    clear hg hn hr h hW I0 s1 s2 s3 s4 ha PL
    go_enter Try.func16, Try.ntmps16
    go_wp2_with fail
    try simp only [hwB]
    refine VG1.out.mono ?_
    rintro e w2 ⟨rfl, nq, rfl⟩
    have I2 := HI.out.step (Ext.drawN (Ext.refl _) nq)
    have q1 := I2.spot.cell 0
    have q2 := I2.spot.cell 1
    simp at q1 q2
    have HA2 := Lib.hid (HA.out _ (I2.greyAt HM.out))
    have HI2 := Lib.hid I2
    clear I2
    go_wp2_with fail
    refine HA2.out.mono ?_
    rintro e w3 ⟨rfl, hb3⟩
    have I2 := HI2.out.step hb3
    have f0 := I2.res.free 0
    have f1 := I2.res.free 1
    have r0 := I2.res.cell 0
    have r1 := I2.res.cell 1
    simp at r0 r1
    have R2 := (I2.res.store 0 (.int .i64 0)).store 1 (.int .i64 0)
    have s0 := R2.cell 0
    have s1 := R2.cell 1
    simp at s0 s1
    have BX := Lib.hid ((I2.ext.setCell (p := ⟨w.heap.size + 2, 0, none⟩) (by show w.heap.size ≤ w.heap.size + 2; omega) (.int .i64 0)).setCell (p := ⟨w.heap.size + 2, 1, none⟩) (by show w.heap.size ≤ w.heap.size + 2; omega) (.int .i64 0))
    clear R2
    go_wp2_with fail
    refine bodyPost_ret (v := .tuple #[.agg #[.int .i64 0, .int .i64 0], .int .i64 0, .bool false]) (by simp [results, Try.results16, go_sem, s0, s1]) rfl ⟨by rw [F.out]; rfl, BX.out⟩
  have F : Hid (ewV rows x y s = ewTo (gF rows W) W H s.data.toList (x, y) s.data.toList.length) := by simp [Hid, ewV, ewOk, inR, hW, hH, ha, hg, hsz]
  have HA := Lib.hid (fun V (hV : GreyAt V w.heap.size A c rows) => PL.out V hV x y)
  rw [ha] at HA
  have NUM := Lib.hid (fun V (hb : Below w.heap.size w V) (a b : Nat) (h1 : a < W) (h2 : b < H) => (show ∃ g gr cy, A = some ⟨g, 0, none⟩ ∧ V.cell? ⟨g, b, none⟩ = some (.slice (some ⟨gr, 0, none⟩) W cy) ∧ V.cell? ⟨gr, a, none⟩ = some (.int .i64 (gF rows W (b * W + a))) from by
    have hb' : b < rows.length := by rw [hH]; exact h2
    have hrow : rows[b].length = W := by rw [← hW]; exact tab_row hg b hb'
    obtain ⟨g, gr, cy, e1, _, e2, _, e3⟩ := (h.ext hb).num hb' (by rw [hrow]; exact h1)
    rw [hrow] at e2
    exact ⟨g, gr, cy, e1, e2, by rw [e3, gF_at h1 hb' (by rw [hrow]; exact h1)]⟩))
  have HI := Lib.hid I0
  have INP := Lib.hid ha
  have hs4 : W ≤ 16 := by omega
  obtain ⟨gA, rfl, hgA, _⟩ := h (by omega)
  have MX := Lib.hid (fun a b V => maxS_any' a b V)
  clear hg hn hr hW I0 s1 s3 s4 h
  generalize gF rows W = G at *
  go_enter Try.func16, Try.ntmps16
  go_wp2_with fail
  try simp only [hwB]
  refine VG1.out.mono ?_
  rintro e w2 ⟨rfl, nq, rfl⟩
  have I2 := HI.out.step (Ext.drawN (Ext.refl _) nq)
  have q1 := I2.spot.cell 0
  have q2 := I2.spot.cell 1
  simp at q1 q2
  have HA2 := Lib.hid (HA.out _ (I2.greyAt HM.out))
  have HI2 := Lib.hid I2
  clear I2
  go_wp2_with fail
  refine HA2.out.mono ?_
  rintro e w3 ⟨rfl, hb3⟩
  have I3 := HI2.out.step hb3
  clear q1 q2 HA2 VG1 HA HI2 HI
  have LB : Blk (w3.alloc (.cells (spC stL) 28)) w3.heap.size 28 (spC stL) := Blk.made _ _ _
  have I4 := I3.step (Ext.more (Ext.refl _) (.cells (spC stL) 28))
  have lb2 := I3.res.lt
  clear hb3 I3 k0 k1 k2
  obtain ⟨⟨a1, a2⟩, a3, a4⟩ := inG_iff.1 ha
  simp only at a1 a2 a3 a4
  clear ha
  obtain ⟨x, rfl⟩ : ∃ k : Nat, x = k := ⟨x.toNat, by omega⟩
  obtain ⟨y, rfl⟩ : ∃ k : Nat, y = k := ⟨y.toNat, by omega⟩
  obtain ⟨g, gr, cy, hAg, n1, n2⟩ := NUM.out _ I4.ext x y (by omega) (by omega)
  obtain rfl : gA = g := by injection hAg with e; injection e
  have epl : plc W ((x : Int), (y : Int)) = y * W + x := by simp [plc]
  have q0 := I4.grey.cell 0
  have q1 := I4.spot.cell 0
  have q2 := I4.spot.cell 1
  rw [hH] at q0
  simp at q0 q1 q2
  have LT := Lib.hid (lettersS_any w3)
  have HL := Lib.hid LB
  have H4 := Lib.hid I4
  clear LB I4
  go_wp2_with fail
  refine LT.out.mono ?_
  rintro e w4 ⟨rfl, rfl⟩
  clear LT
  generalize w3.heap.size = Lb at *
  generalize w3.alloc (.cells (spC stL) 28) = w4 at *
  go_wp2_with fail
  go_quiet (fail)
  have HN : Hid (s.data.toList.length = s.size) := rfl
  rw [← epl] at *
  go_wp2_with fail
  go_loopw [13, 14, 15, 16, 17] (fun hv iv _ _ _ wr => ∃ (k : Nat) (p1 p2 h : Int), k ≤ s.size ∧ iv = .int .i64 k ∧ hv = .int .i64 h ∧ Hid (ewTo G W H s.data.toList ((x : Int), (y : Int)) k = some ((p1, p2), h)) ∧ inG W H (p1, p2) = true ∧ EowI w (some ⟨gA, 0, none⟩) c rows (p1, p2) wr ∧ Blk wr Lb 28 (spC stL)) (fun _ iv _ _ _ _ => s.size - (intOf iv).toNat)
  case atStart => exact ⟨0, x, y, _, Nat.zero_le _, rfl, rfl, rfl, INP.out, H4.out.step (Ext.drawN (Ext.refl _) _), HL.out.under (Ext.drawN (Ext.refl _) _) HL.out.lt⟩
  case round =>
    obtain ⟨k, p1, p2, h, hk, rfl, rfl, hew, hin, hI, hL⟩ := hrel
    clear n1 n2 q0 q1 q2
    by_cases hlt : k < s.size
    · obtain ⟨wo, rfl⟩ : ∃ wo : World, wo = wr := ⟨_, rfl⟩
      obtain ⟨b, hb⟩ : ∃ b, s[k] = b := ⟨_, rfl⟩
      have EW : Hid (ewTo G W H s.data.toList ((x : Int), (y : Int)) (k + 1) = ewS G W H (some ((p1, p2), h)) b) := by
        have e := ewTo_succ (G := G) (W := W) (H := H) (bs := s.data.toList) (p := ((x : Int), (y : Int))) (k := k) (by rw [HN.out]; exact hlt)
        rw [hew.out] at e
        rw [Hid, e, ← hb]; rfl
      have NX := Lib.hid (fun (hh : ewTo G W H s.data.toList ((x : Int), (y : Int)) (k + 1) = none) => ewTo_none hh)
      have LN := Lib.hid (letN_not b)
      have LI := Lib.hid (letN_is b)
      have LE := letN_le b
      have LK := Lib.hid (letN_K b)
      rw [← hb] at LN LI
      have HB := Lib.hid hb
      clear hb
      rw [HB.out] at LN LI
      generalize letN b = nb at *
      have i0 : (0 : Int) ≤ (k : Int) := by omega
      have i1 : (k : Int) < (s.size : Int) := by omega
      obtain ⟨⟨g1, g2⟩, g3, g4⟩ := inG_iff.1 hin
      simp only at g1 g2 g3 g4
      have HI := Lib.hid hI
      have HL2 := Lib.hid hL
      clear hI hL H4 HL
      go_wp2_with fail
      go_loopw [15] (fun i wl => ∃ j : Nat, j ≤ nb ∧ i = .int .i64 j ∧ Below wo.heap.size wo wl) (fun i _ => 5 - (intOf i).toNat)
      case atStart => exact ⟨0, Nat.zero_le _, rfl, Ext.refl _⟩
      case round =>
        obtain ⟨j, hj, rfl, hb2⟩ := hrel
        go_upto_region 12 with fail
        go_cut [64] (fun s64 wx => s64 = .bool (decide (j < nb)) ∧ Below wo.heap.size wo wx)
        case first =>
          have HBI : (((s[k]'hlt).toNat : Nat) : Int) = ((b.toNat : Nat) : Int) := by rw [HB.out]
          have ne : Nonempty (HeldW (fun V => Below wo.heap.size wo V)) := ⟨⟨wo, Ext.refl _⟩⟩
          obtain ⟨l0, l1, l2, l3⟩ := LN.out
          obtain ⟨m0, m1, m2, m3⟩ := LI.out
          have MEET : Hid True := trivial
          have j5 : j = 4 ∨ j = 0 ∨ j = 1 ∨ j = 2 ∨ j = 3 := by omega
          clear EW NX LK LN LI
          rcases j5 with rfl | rfl | rfl | rfl | rfl
          · have d0 : decide (4 < nb) = false := by simp; omega
            clear l0 l1 l2 l3 m0 m1 m2 m3
            refine wp_region_held_quiet (fun V => Below wo.heap.size wo V) (by kernel_rfl) (by kernel_rfl) hb2.drew ?_
            repeat (go_big_quiet_step (fail))
            refine wpQuiet_nil ?_
            intro _ hw'
            obtain ⟨⟨w9, hb9⟩, rfl⟩ := hw'
            clear ne
            go_wp2_with fail
            go_meet
            exact ⟨by rw [d0], hb9⟩
          · by_cases hjn : 0 < nb
            · have d0 : decide (0 < nb) = true := by simp [hjn]
              have e0 := l0 hjn
              clear l0 l1 l2 l3 m0 m1 m2 m3 hjn
              refine wp_region_held_quiet (fun V => Below wo.heap.size wo V) (by kernel_rfl) (by kernel_rfl) hb2.drew ?_
              repeat (go_big_quiet_step (fail))
              refine wpQuiet_nil ?_
              intro _ hw'
              obtain ⟨⟨w9, hb9⟩, rfl⟩ := hw'
              clear ne
              go_wp2_with fail
              go_meet
              exact ⟨by rw [d0]; exact congrArg Value.bool (by show ((100 : Int) != ((b.toNat : Nat) : Int)) = true; rw [bne, e0]; rfl), hb9⟩
            · have d0 : decide (0 < nb) = false := by simp; omega
              have e0 := m0 (by omega)
              clear l0 l1 l2 l3 m0 m1 m2 m3 hjn
              refine wp_region_held_quiet (fun V => Below wo.heap.size wo V) (by kernel_rfl) (by kernel_rfl) hb2.drew ?_
              repeat (go_big_quiet_step (fail))
              refine wpQuiet_nil ?_
              intro _ hw'
              obtain ⟨⟨w9, hb9⟩, rfl⟩ := hw'
              clear ne
              go_wp2_with fail
              go_meet
              exact ⟨by rw [d0]; exact congrArg Value.bool (by show ((100 : Int) != 100) = false; decide), hb9⟩
          · by_cases hjn : 1 < nb
            · have d0 : decide (1 < nb) = true := by simp [hjn]
              have e0 := l1 hjn
              clear l0 l1 l2 l3 m0 m1 m2 m3 hjn
              refine wp_region_held_quiet (fun V => Below wo.heap.size wo V) (by kernel_rfl) (by kernel_rfl) hb2.drew ?_
              repeat (go_big_quiet_step (fail))
              refine wpQuiet_nil ?_
              intro _ hw'
              obtain ⟨⟨w9, hb9⟩, rfl⟩ := hw'
              clear ne
              go_wp2_with fail
              go_meet
              exact ⟨by rw [d0]; exact congrArg Value.bool (by show ((108 : Int) != ((b.toNat : Nat) : Int)) = true; rw [bne, e0]; rfl), hb9⟩
            · have d0 : decide (1 < nb) = false := by simp; omega
              have e0 := m1 (by omega)
              clear l0 l1 l2 l3 m0 m1 m2 m3 hjn
              refine wp_region_held_quiet (fun V => Below wo.heap.size wo V) (by kernel_rfl) (by kernel_rfl) hb2.drew ?_
              repeat (go_big_quiet_step (fail))
              refine wpQuiet_nil ?_
              intro _ hw'
              obtain ⟨⟨w9, hb9⟩, rfl⟩ := hw'
              clear ne
              go_wp2_with fail
              go_meet
              exact ⟨by rw [d0]; exact congrArg Value.bool (by show ((108 : Int) != 108) = false; decide), hb9⟩
          · by_cases hjn : 2 < nb
            · have d0 : decide (2 < nb) = true := by simp [hjn]
              have e0 := l2 hjn
              clear l0 l1 l2 l3 m0 m1 m2 m3 hjn
              refine wp_region_held_quiet (fun V => Below wo.heap.size wo V) (by kernel_rfl) (by kernel_rfl) hb2.drew ?_
              repeat (go_big_quiet_step (fail))
              refine wpQuiet_nil ?_
              intro _ hw'
              obtain ⟨⟨w9, hb9⟩, rfl⟩ := hw'
              clear ne
              go_wp2_with fail
              go_meet
              exact ⟨by rw [d0]; exact congrArg Value.bool (by show ((114 : Int) != ((b.toNat : Nat) : Int)) = true; rw [bne, e0]; rfl), hb9⟩
            · have d0 : decide (2 < nb) = false := by simp; omega
              have e0 := m2 (by omega)
              clear l0 l1 l2 l3 m0 m1 m2 m3 hjn
              refine wp_region_held_quiet (fun V => Below wo.heap.size wo V) (by kernel_rfl) (by kernel_rfl) hb2.drew ?_
              repeat (go_big_quiet_step (fail))
              refine wpQuiet_nil ?_
              intro _ hw'
              obtain ⟨⟨w9, hb9⟩, rfl⟩ := hw'
              clear ne
              go_wp2_with fail
              go_meet
              exact ⟨by rw [d0]; exact congrArg Value.bool (by show ((114 : Int) != 114) = false; decide), hb9⟩
          · by_cases hjn : 3 < nb
            · have d0 : decide (3 < nb) = true := by simp [hjn]
              have e0 := l3 hjn
              clear l0 l1 l2 l3 m0 m1 m2 m3 hjn
              refine wp_region_held_quiet (fun V => Below wo.heap.size wo V) (by kernel_rfl) (by kernel_rfl) hb2.drew ?_
              repeat (go_big_quiet_step (fail))
              refine wpQuiet_nil ?_
              intro _ hw'
              obtain ⟨⟨w9, hb9⟩, rfl⟩ := hw'
              clear ne
              go_wp2_with fail
              go_meet
              exact ⟨by rw [d0]; exact congrArg Value.bool (by show ((117 : Int) != ((b.toNat : Nat) : Int)) = true; rw [bne, e0]; rfl), hb9⟩
            · have d0 : decide (3 < nb) = false := by simp; omega
              have e0 := m3 (by omega)
              clear l0 l1 l2 l3 m0 m1 m2 m3 hjn
              refine wp_region_held_quiet (fun V => Below wo.heap.size wo V) (by kernel_rfl) (by kernel_rfl) hb2.drew ?_
              repeat (go_big_quiet_step (fail))
              refine wpQuiet_nil ?_
              intro _ hw'
              obtain ⟨⟨w9, hb9⟩, rfl⟩ := hw'
              clear ne
              go_wp2_with fail
              go_meet
              exact ⟨by rw [d0]; exact congrArg Value.bool (by show ((117 : Int) != 117) = false; decide), hb9⟩
        case rest =>
          obtain ⟨rfl, hbx⟩ := hcut
          by_cases hjn : j < nb
          · go_wp2_with fail
            go_roundw
            case rel => exact ⟨j + 1, by omega, by go_num, hbx⟩
            case measure => simp [intOf]; omega
          · obtain rfl : j = nb := by omega
            have I2 := HI.out.step hbx
            by_cases hn4 : j = 4
            · have NO := Lib.hid (NX.out (by rw [EW.out, ewS, LK.out]; simp [hn4]))
              have e1 : ((j : Int) == 4) = true := by simp [hn4]
              have f0 := I2.res.free 0
              have f1 := I2.res.free 1
              have r0 := I2.res.cell 0
              have r1 := I2.res.cell 1
              simp at r0 r1
              have R2 := (I2.res.store 0 (.int .i64 0)).store 1 (.int .i64 0)
              have s0 := R2.cell 0
              have s1 := R2.cell 1
              simp at s0 s1
              have BX := Lib.hid ((I2.ext.setCell (p := ⟨w.heap.size + 2, 0, none⟩) (by show w.heap.size ≤ w.heap.size + 2; omega) (.int .i64 0)).setCell (p := ⟨w.heap.size + 2, 1, none⟩) (by show w.heap.size ≤ w.heap.size + 2; omega) (.int .i64 0))
              clear R2
              go_wp2_with fail
              refine bodyPost_ret (v := .tuple #[.agg #[.int .i64 0, .int .i64 0], .int .i64 0, .bool false]) (by simp [results, Try.results16, go_sem, s0, s1]) rfl ⟨by rw [F.out, NO.out]; rfl, BX.out⟩
            · have hj4 : j < 4 := by omega
              have e1 : ((j : Int) == 4) = false := by simp; omega
              obtain ⟨st, d1, d2, d3, d4⟩ := stL_step (p1, p2) j hj4
              have EW2 : Hid (ewTo G W H s.data.toList ((x : Int), (y : Int)) (k + 1) = if inG W H (p1 + (stL[j]'hj4).1, p2 + (stL[j]'hj4).2) = true then some ((p1 + (stL[j]'hj4).1, p2 + (stL[j]'hj4).2), max h (G (plc W (p1 + (stL[j]'hj4).1, p2 + (stL[j]'hj4).2)))) else none) := by
                rw [Hid, EW.out, ewS, LK.out, if_neg hn4, st]
                simp only [show ¬ ((j : Int) < 0) by omega, if_false]
              have HLx := HL2.out.under hbx HL2.out.lt
              obtain ⟨c1, c2⟩ := HLx.spots.2 j hj4
              clear st EW LK LN LI
              obtain ⟨dd, hdd⟩ : ∃ dd, stL[j]'hj4 = dd := ⟨_, rfl⟩
              rw [hdd] at c1 c2 d1 d2 d3 d4 EW2
              have HD2 := Lib.hid hdd
              clear hdd
              obtain ⟨dx, dy⟩ := dd
              simp only at c1 c2 d1 d2 d3 d4 EW2
              obtain ⟨q1, hq1⟩ : ∃ q1, p1 + dx = q1 := ⟨_, rfl⟩
              obtain ⟨q2, hq2⟩ : ∃ q2, p2 + dy = q2 := ⟨_, rfl⟩
              have w1' : IntKind.i64.wrap (p1 + dx) = q1 := by rw [← hq1]; exact IntWalk.i64_in _ (by omega)
              have w2' : IntKind.i64.wrap (p2 + dy) = q2 := by rw [← hq2]; exact IntWalk.i64_in _ (by omega)
              rw [hq1] at EW2
              rw [hq2] at EW2
              have HX1 := Lib.hid hq1
              clear hq1 hq2 d1 d2 d3 d4
              have s1c := I2.spot.cell 0
              have s2c := I2.spot.cell 1
              have f1c := I2.spot.free 0
              simp at s1c s2c
              have j0 : (0 : Int) ≤ (j : Int) := by omega
              have j1 : (j : Int) < 4 := by omega
              have HI2 := Lib.hid I2
              have HLX := Lib.hid HLx
              clear I2 HLx
              go_upto_region 16 with fail
              refine wp_region_quiet_tail 9 (by kernel_rfl) (by kernel_rfl) ?_
              simp only [List.take_succ_cons, List.take_zero, List.drop_succ_cons, List.drop_zero]
              repeat (go_big_quiet_step (fail))
              refine wpQuiet_nil ?_
              intro w5 hw'
              obtain ⟨nq3, hw''⟩ := hw'
              subst hw''
              clear s1c s2c c1 c2
              have I3 := (HI2.out.step (Ext.drawN (Ext.refl _) nq3)).one0 q1
              have L3 := ((HLX.out.under (Ext.drawN (Ext.refl _) nq3) HLX.out.lt)).apart (p := ⟨w.heap.size + 1, 0, none⟩) (by show Lb ≠ w.heap.size + 1; omega) (.int .i64 q1)
              have f0x := ((HI2.out.step (Ext.drawN (Ext.refl _) nq3))).spot.free 0
              have s0x := ((HI2.out.step (Ext.drawN (Ext.refl _) nq3))).spot.cell 0
              simp at s0x
              go_upto_region 17 with fail
              clear f0x s0x f1c
              generalize (wc.drewN nq3).setCell ⟨w.heap.size + 1, 0, none⟩ (.int .i64 q1) = w5 at *
              obtain ⟨c1, c2⟩ := L3.spots.2 j hj4
              have s1c := I3.spot.cell 0
              have s2c := I3.spot.cell 1
              have f2c := I3.spot.free 1
              simp at s1c s2c
              simp only [HD2.out] at c1 c2
              have HI3 := Lib.hid I3
              have HL3 := Lib.hid L3
              clear I3 L3
              refine wp_region_quiet_tail 9 (by kernel_rfl) (by kernel_rfl) ?_
              simp only [List.take_succ_cons, List.take_zero, List.drop_succ_cons, List.drop_zero]
              repeat (go_big_quiet_step (fail))
              refine wpQuiet_nil ?_
              intro w6 hw'
              obtain ⟨nq4, hw''⟩ := hw'
              subst hw''
              have I5 := (HI3.out.step (Ext.drawN (Ext.refl _) nq4)).one1 q2
              have L5 := ((HL3.out.under (Ext.drawN (Ext.refl _) nq4) HL3.out.lt)).apart (p := ⟨w.heap.size + 1, 1, none⟩) (by show Lb ≠ w.heap.size + 1; omega) (.int .i64 q2)
              have f2x := ((HI3.out.step (Ext.drawN (Ext.refl _) nq4))).spot.free 1
              have s2x := ((HI3.out.step (Ext.drawN (Ext.refl _) nq4))).spot.cell 1
              simp at s2x
              clear c1 c2 s1c s2c
              go_upto_region 18 with fail
              clear f2x s2x f2c
              generalize (w5.drewN nq4).setCell ⟨w.heap.size + 1, 1, none⟩ (.int .i64 q2) = w6 at *
              have s3c := I5.spot.cell 0
              have s4c := I5.spot.cell 1
              simp at s3c s4c
              have P5 := Lib.hid (PL.out _ (I5.greyAt HM.out) q1 q2)
              have HI5 := Lib.hid I5
              have HL5 := Lib.hid L5
              clear I5 L5
              go_wp2_with fail
              refine P5.out.mono ?_
              rintro e w7 ⟨rfl, hb7⟩
              have I7 := HI5.out.step hb7
              have L7 := Lib.hid (HL5.out.under hb7 HL5.out.lt)
              clear P5 s3c s4c
              generalize plcO W H q1 q2 = pq at *
              cases hin2 : inG W H (q1, q2)
              · have NO := Lib.hid (NX.out (by rw [EW2.out, hin2]; rfl))
                have f0 := I7.res.free 0
                have f1 := I7.res.free 1
                have r0 := I7.res.cell 0
                have r1 := I7.res.cell 1
                simp at r0 r1
                have R2 := (I7.res.store 0 (.int .i64 0)).store 1 (.int .i64 0)
                have s0 := R2.cell 0
                have s1 := R2.cell 1
                simp at s0 s1
                have BX := Lib.hid ((I7.ext.setCell (p := ⟨w.heap.size + 2, 0, none⟩) (by show w.heap.size ≤ w.heap.size + 2; omega) (.int .i64 0)).setCell (p := ⟨w.heap.size + 2, 1, none⟩) (by show w.heap.size ≤ w.heap.size + 2; omega) (.int .i64 0))
                clear R2
                go_wp2_with fail
                refine bodyPost_ret (v := .tuple #[.agg #[.int .i64 0, .int .i64 0], .int .i64 0, .bool false]) (by simp [results, Try.results16, go_sem, s0, s1]) rfl ⟨by rw [F.out, NO.out]; rfl, BX.out⟩
              · have HIN := Lib.hid hin2
                obtain ⟨⟨b1, b2⟩, b3, b4⟩ := inG_iff.1 hin2
                simp only at b1 b2 b3 b4
                obtain ⟨a, rfl⟩ : ∃ a : Nat, q1 = a := ⟨q1.toNat, by omega⟩
                obtain ⟨bb, rfl⟩ : ∃ bb : Nat, q2 = bb := ⟨q2.toNat, by omega⟩
                obtain ⟨g9, gr9, cy9, hAg9, n3, n4⟩ := NUM.out _ I7.ext a bb (by omega) (by omega)
                obtain rfl : gA = g9 := by injection hAg9 with e; injection e
                have epl2 : plc W ((a : Int), (bb : Int)) = bb * W + a := by simp [plc]
                rw [← epl2] at n4
                have EW3 : Hid (ewTo G W H s.data.toList ((x : Int), (y : Int)) (k + 1) = some (((a : Int), (bb : Int)), max h (G (plc W ((a : Int), (bb : Int)))))) := by rw [Hid, EW2.out, hin2]; rfl
                have s3c := I7.spot.cell 0
                have s4c := I7.spot.cell 1
                have g0c := I7.grey.cell 0
                rw [hH] at g0c
                simp at s3c s4c g0c
                have HI7 := Lib.hid I7
                have MX1 := Lib.hid (fun V => MX.out h (G (plc W ((a : Int), (bb : Int)))) V)
                clear I7 EW2 hin2 hAg9 epl2
                generalize G (plc W ((a : Int), (bb : Int))) = gv at *
                go_wp2_with fail
                go_quiet ((go_at_call 54; exact Calls.quiet_of_same ((MX1.out _).mono fun _ _ ⟨h, k⟩ => ⟨h, k.symm⟩)))
                clear n3 n4 s3c s4c g0c
                go_wp2_with fail
                go_roundw
                case rel => exact ⟨k + 1, a, bb, max h gv, by omega, by go_num, rfl, EW3.out, HIN.out, HI7.out.step (Ext.drawN (Ext.refl _) _), L7.out.under (Ext.drawN (Ext.refl _) _) L7.out.lt⟩
                case measure => simp [intOf]; omega
    · obtain rfl : k = s.size := by omega
      have YES : Hid (ewV rows (x : Int) (y : Int) s = some ((p1, p2), h)) := by rw [Hid, F.out, HN.out, hew.out]
      have q3 := hI.spot.cell 0
      have q4 := hI.spot.cell 1
      have f0 := hI.res.free 0
      have f1 := hI.res.free 1
      have r0 := hI.res.cell 0
      have r1 := hI.res.cell 1
      simp at q3 q4 r0 r1
      have R2 := (hI.res.store 0 (.int .i64 p1)).store 1 (.int .i64 p2)
      have s0 := R2.cell 0
      have s1 := R2.cell 1
      simp at s0 s1
      have BX := Lib.hid ((hI.ext.setCell (p := ⟨w.heap.size + 2, 0, none⟩) (by show w.heap.size ≤ w.heap.size + 2; omega) (.int .i64 p1)).setCell (p := ⟨w.heap.size + 2, 1, none⟩) (by show w.heap.size ≤ w.heap.size + 2; omega) (.int .i64 p2))
      clear R2
      go_wp2_with fail
      refine bodyPost_ret (v := .tuple #[.agg #[.int .i64 p1, .int .i64 p2], .int .i64 h, .bool true]) (by simp [results, Try.results16, go_sem, s0, s1]) rfl ⟨by rw [YES.out]; rfl, BX.out⟩
end Go.Proofs.Ytajepoopicoodaa
