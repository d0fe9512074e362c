/- The end of a way: what letters do, and the program's EndOfWay. -/
import Derived.Test.YtajepoopicoodaaPbt
import Derived.Test.YtajepoopicoodaaShelf
import Derived.Deep.CutRange
import Derived.Deep.DeepCutAuto
namespace Go.Proofs.Ytajepoopicoodaa
open Go.RowKit

/-- A letter's number; -1 of another byte. -/
def letK (b : UInt8) : Int := Lib.indexByte [100, 108, 114, 117] b
theorem letK_eq (b : UInt8) : letK b = if b = 100 then 0 else if b = 108 then 1 else if b = 114 then 2 else if b = 117 then 3 else -1 := by
  unfold letK
  simp only [Lib.indexByte, beq_iff_eq]
  by_cases h0 : b = 100
  · subst h0; decide
  by_cases h1 : b = 108
  · subst h1; decide
  by_cases h2 : b = 114
  · subst h2; decide
  by_cases h3 : b = 117
  · subst h3; decide
  simp [h0, h1, h2, h3, Ne.symm h0, Ne.symm h1, Ne.symm h2, Ne.symm h3]
theorem letK_bd (b : UInt8) : letK b = -1 ∨ letK b = 0 ∨ letK b = 1 ∨ letK b = 2 ∨ letK b = 3 := by
  rw [letK_eq]; repeat' split
  all_goals simp
/-- The neighbour to which a letter leads. -/
def stepP (p : Int × Int) (k : Int) : Int × Int := if k = 0 then (p.1, p.2 + 1) else if k = 1 then (p.1 - 1, p.2) else if k = 2 then (p.1 + 1, p.2) else (p.1, p.2 - 1)
/-- Behind one more letter: the place and the greatest number on the way; none where the way leads out. -/
def ewS (G : Nat → Int) (W H : Nat) (s : Option ((Int × Int) × Int)) (b : UInt8) : Option ((Int × Int) × Int) :=
  match s with
  | none => none
  | some (p, h) => if letK b < 0 then none else if inG W H (stepP p (letK b)) = true then some (stepP p (letK b), max h (G (plc W (stepP p (letK b))))) else none
def ewTo (G : Nat → Int) (W H : Nat) (bs : List UInt8) (p : Int × Int) (k : Nat) : Option ((Int × Int) × Int) := (bs.take k).foldl (ewS G W H) (some (p, G (plc W p)))
theorem ewTo_succ {G : Nat → Int} {W H : Nat} {bs : List UInt8} {p : Int × Int} {k : Nat} (h : k < bs.length) : ewTo G W H bs p (k + 1) = ewS G W H (ewTo G W H bs p k) bs[k] := by
  rw [ewTo, List.take_succ_eq_append_getElem h, List.foldl_append]; rfl
theorem ewFold_none (G : Nat → Int) (W H : Nat) (bs : List UInt8) : bs.foldl (ewS G W H) none = none := by
  induction bs with
  | nil => rfl
  | cons b bs ih => exact ih
theorem ewTo_none {G : Nat → Int} {W H : Nat} {bs : List UInt8} {p : Int × Int} {k : Nat} (h : ewTo G W H bs p k = none) : ewTo G W H bs p bs.length = none := by
  have e : bs = bs.take k ++ bs.drop k := (List.take_append_drop k bs).symm
  rw [ewTo, List.take_of_length_le (Nat.le_refl _)]
  conv => lhs; rw [e]
  rw [List.foldl_append]
  show (bs.drop k).foldl (ewS G W H) (ewTo G W H bs p k) = none
  rw [h]; exact ewFold_none _ _ _ _
def ewOk (rows : List (List Int)) (x y : Int) (s : ByteArray) : Bool := inR rows x y && decide (s.size ≤ 1000)
/-- Where a way ends, and its greatest number. -/
def ewV (rows : List (List Int)) (x y : Int) (s : ByteArray) : Option ((Int × Int) × Int) := if ewOk rows x y s then ewTo (gF rows (tabW rows)) (tabW rows) rows.length s.data.toList (x, y) s.data.toList.length else none
/-- The call's value. -/
def ewRet : Option ((Int × Int) × Int) → Value
  | none => .tuple #[.agg #[.int .i64 0, .int .i64 0], .int .i64 0, .bool false]
  | some (p, h) => .tuple #[.agg #[.int .i64 p.1, .int .i64 p.2], .int .i64 h, .bool true]
theorem ew_ret {s t : Option ((Int × Int) × Int)} (h : s = t) : Ending.returned (ewRet t) = .returned (ewRet s) := by rw [h]
theorem GreyAt.of {w : World} {p : Nat} {A : Option Addr} {c : Nat} {rows : List (List Int)} (hB : Blk w p 31 #[.slice A rows.length c]) (hm : MatRd w A rows) : GreyAt w p A c rows := by
  have := hB.cell 0
  simp at this
  exact ⟨hB.lt, this, hm⟩
theorem setF_free {w : World} {g : Nat} {t : TypeId} {cs : Array Value} (h : Blk w g t cs) (i : Nat) : w.frozen? ⟨g, i, none⟩ = false := h.free i

set_option maxHeartbeats 1000000 in
theorem stepped_any (x y k : Int) (w : World) (hx : -1000 ≤ x ∧ x ≤ 1000) (hy : -1000 ≤ y ∧ y ≤ 1000) (hk : k = 0 ∨ k = 1 ∨ k = 2 ∨ k = 3) :
    Calls Try.prog 60 #[.agg #[.int .i64 x, .int .i64 y], .int .i64 k] w fun e w' => e = .returned (.agg #[.int .i64 (stepP (x, y) k).1, .int .i64 (stepP (x, y) k).2]) ∧ Below w.heap.size w w' := by
  have j0 : IntKind.i64.wrap (y + 1) = y + 1 := IntWalk.i64_in _ (by omega)
  have j1 : IntKind.i64.wrap (x - 1) = x - 1 := IntWalk.i64_in _ (by omega)
  have j2 : IntKind.i64.wrap (x + 1) = x + 1 := IntWalk.i64_in _ (by omega)
  have j3 : IntKind.i64.wrap (y - 1) = y - 1 := IntWalk.i64_in _ (by omega)
  rcases hk with rfl | rfl | rfl | rfl
  · go_enter Try.func60, Try.ntmps60
    go_wp2_with fail
    exact bodyPost_ret (v := .agg #[.int .i64 (x), .int .i64 (y + 1)]) (by simp [results, Try.results60, go_sem]) rfl ⟨rfl, Ext.more (Ext.more (Ext.refl _) _) _⟩
  · go_enter Try.func60, Try.ntmps60
    go_wp2_with fail
    exact bodyPost_ret (v := .agg #[.int .i64 (x - 1), .int .i64 (y)]) (by simp [results, Try.results60, go_sem]) rfl ⟨rfl, Ext.more (Ext.more (Ext.refl _) _) _⟩
  · go_enter Try.func60, Try.ntmps60
    go_wp2_with fail
    exact bodyPost_ret (v := .agg #[.int .i64 (x + 1), .int .i64 (y)]) (by simp [results, Try.results60, go_sem]) rfl ⟨rfl, Ext.more (Ext.more (Ext.refl _) _) _⟩
  · go_enter Try.func60, Try.ntmps60
    go_wp2_with fail
    exact bodyPost_ret (v := .agg #[.int .i64 (x), .int .i64 (y - 1)]) (by simp [results, Try.results60, go_sem]) rfl ⟨rfl, Ext.more (Ext.more (Ext.refl _) _) _⟩

/-- What the walk of a way keeps. -/
structure EowI (w : World) (A : Option Addr) (c : Nat) (rows : List (List Int)) (p : Int × Int) (wr : World) : Prop where
  grey : Blk wr w.heap.size 31 #[.slice A rows.length c]
  spot : Blk wr (w.heap.size + 1) 28 #[.int .i64 p.1, .int .i64 p.2]
  res : Blk wr (w.heap.size + 2) 28 #[.int .i64 0, .int .i64 0]
  ext : Below w.heap.size w wr
theorem EowI.step {w : World} {A : Option Addr} {c : Nat} {rows : List (List Int)} {p : Int × Int} {wr w' : World} (h : EowI w A c rows p wr) (hb : Below wr.heap.size wr w') : EowI w A c rows p w' :=
  ⟨h.grey.under hb h.grey.lt, h.spot.under hb h.spot.lt, h.res.under hb h.res.lt, Ext.then_ h.ext hb⟩
theorem EowI.greyAt {w : World} {A : Option Addr} {c : Nat} {rows : List (List Int)} {p : Int × Int} {wr : World} (h : EowI w A c rows p wr) (hm : MatRd w A rows) : GreyAt wr w.heap.size A c rows := GreyAt.of h.grey (hm.ext h.ext)
theorem EowI.turn {w : World} {A : Option Addr} {c : Nat} {rows : List (List Int)} {p : Int × Int} {wr : World} (h : EowI w A c rows p wr) (x y : Int) : EowI w A c rows (x, y) ((wr.setCell ⟨w.heap.size + 1, 0, none⟩ (.int .i64 x)).setCell ⟨w.heap.size + 1, 1, none⟩ (.int .i64 y)) := by
  refine ⟨(h.grey.apart (p := ⟨w.heap.size + 1, 0, none⟩) (by show w.heap.size ≠ w.heap.size + 1; omega) _).apart (p := ⟨w.heap.size + 1, 1, none⟩) (by show w.heap.size ≠ w.heap.size + 1; omega) _, ?_,
    (h.res.apart (p := ⟨w.heap.size + 1, 0, none⟩) (by show w.heap.size + 2 ≠ w.heap.size + 1; omega) _).apart (p := ⟨w.heap.size + 1, 1, none⟩) (by show w.heap.size + 2 ≠ w.heap.size + 1; omega) _,
    (h.ext.setCell (p := ⟨w.heap.size + 1, 0, none⟩) (by show w.heap.size ≤ w.heap.size + 1; omega) _).setCell (p := ⟨w.heap.size + 1, 1, none⟩) (by show w.heap.size ≤ w.heap.size + 1; omega) _⟩
  have := (h.spot.store 0 (.int .i64 x)).store 1 (.int .i64 y)
  simpa using this

set_option maxRecDepth 100000 in
set_option maxHeartbeats 2000000 in
theorem endOfWay_any (A : Option Addr) (c : Nat) (rows : List (List Int)) (x y : Int) (s : ByteArray) (w : World) (h : MatRd w A rows) (hn : rows.length ≤ 1000000000) (hr : ∀ i (h : i < rows.length), rows[i].length ≤ 1000000000) :
    Calls Try.prog 19 #[.agg #[.slice A rows.length c], .agg #[.int .i64 x, .int .i64 y], .string s] w fun e w' => e = .returned (ewRet (ewV rows x y s)) ∧ Below w.heap.size w w' := by
  obtain ⟨wB, hwB⟩ : ∃ wB, ((w.alloc (.cells #[.slice A rows.length c] 31)).alloc (.cells #[.int .i64 x, .int .i64 y] 28)).alloc (.cells #[.int .i64 0, .int .i64 0] 28) = wB := ⟨_, rfl⟩
  have I0 : EowI w A c rows (x, y) wB := by
    rw [← hwB]
    refine ⟨((Blk.made _ _ _).more _).more _, ?_, ?_, Ext.more (Ext.more (Ext.more (Ext.refl _) _) _) _⟩
    · have := (Blk.made (w.alloc (.cells #[.slice A rows.length c] 31)) 28 #[.int .i64 x, .int .i64 y]).more (.cells #[.int .i64 0, .int .i64 0] 28)
      simpa using this
    · have := Blk.made ((w.alloc (.cells #[.slice A rows.length c] 31)).alloc (.cells #[.int .i64 x, .int .i64 y] 28)) 28 #[.int .i64 0, .int .i64 0]
      simpa using this
  have VG := Lib.hid (fun V (hV : Below w.heap.size w V) => validGrey_any A c rows V (h.ext hV) hn hr)
  have HM := Lib.hid h
  have Z2 := Lib.hid (fun V (hI : Blk V (w.heap.size + 2) 28 #[.int .i64 0, .int .i64 0]) => And.intro (hI.free 0) (hI.free 1))
  obtain ⟨W, hW⟩ : ∃ W, tabW rows = W := ⟨_, rfl⟩
  obtain ⟨H, hH⟩ : ∃ H, rows.length = H := ⟨_, rfl⟩
  rw [hH] at VG hwB ⊢
  have k0 := I0.grey.cell 0
  have k1 := I0.spot.cell 0
  have k2 := I0.spot.cell 1
  rw [hH] at k0
  simp at k0 k1 k2
  cases hg : greyOk rows
  · have F : Hid (ewV rows x y s = none) := by simp [Hid, ewV, ewOk, inR, hg]
    rw [hg] at VG
    have HI := Lib.hid I0
    clear hg hn hr h hW I0
    go_enter Try.func19, Try.ntmps19
    go_wp2_with fail
    try simp only [hwB]
    refine (VG.out _ HI.out.ext).mono ?_
    rintro e w2 ⟨rfl, hb⟩
    have I2 := HI.out.step hb
    have f0 := I2.res.free 0
    have f1 := I2.res.free 1
    have r0 := I2.res.cell 0
    have r1 := I2.res.cell 1
    simp at r0 r1
    have R2 := (I2.res.store 0 (.int .i64 0)).store 1 (.int .i64 0)
    have s0 := R2.cell 0
    have s1 := R2.cell 1
    simp at s0 s1
    have BX := Lib.hid ((I2.ext.setCell (p := ⟨w.heap.size + 2, 0, none⟩) (by show w.heap.size ≤ w.heap.size + 2; omega) (.int .i64 0)).setCell (p := ⟨w.heap.size + 2, 1, none⟩) (by show w.heap.size ≤ w.heap.size + 2; omega) (.int .i64 0))
    clear R2 I2
    go_wp2_with fail
    refine bodyPost_ret (v := .tuple #[.agg #[.int .i64 0, .int .i64 0], .int .i64 0, .bool false]) (by simp [results, Try.results19, go_sem, s0, s1]) rfl ⟨ew_ret F.out, BX.out⟩
  rw [hg] at VG
  obtain ⟨s1, s2, s3, s4⟩ := tab_sizes hg
  have HS := Lib.hid (fun V (hV : GreyAt V w.heap.size A c rows) (x y : Int) => g_has hV hW hH (by omega) (by omega) (by omega) x y)
  cases ha : inG W H (x, y)
  · have F : Hid (ewV rows x y s = none) := by simp [Hid, ewV, ewOk, inR, hW, hH, ha]
    have HA := Lib.hid (fun V (hV : GreyAt V w.heap.size A c rows) => HS.out V hV x y)
    rw [ha] at HA
    have HI := Lib.hid I0
    clear hg hn hr h hW I0 s1 s2 s3 s4 ha HS
    go_enter Try.func19, Try.ntmps19
    go_wp2_with fail
    try simp only [hwB]
    refine (VG.out _ HI.out.ext).mono ?_
    rintro e w2 ⟨rfl, hb⟩
    have I2 := HI.out.step hb
    have q1 := I2.spot.cell 0
    have q2 := I2.spot.cell 1
    simp at q1 q2
    have HA2 := Lib.hid (HA.out w2 (I2.greyAt HM.out))
    have HI2 := Lib.hid I2
    clear I2
    go_wp2_with fail
    refine HA2.out.mono ?_
    rintro e w3 ⟨rfl, hb3⟩
    have I2 := HI2.out.step hb3
    have f0 := I2.res.free 0
    have f1 := I2.res.free 1
    have r0 := I2.res.cell 0
    have r1 := I2.res.cell 1
    simp at r0 r1
    have R2 := (I2.res.store 0 (.int .i64 0)).store 1 (.int .i64 0)
    have s0 := R2.cell 0
    have s1 := R2.cell 1
    simp at s0 s1
    have BX := Lib.hid ((I2.ext.setCell (p := ⟨w.heap.size + 2, 0, none⟩) (by show w.heap.size ≤ w.heap.size + 2; omega) (.int .i64 0)).setCell (p := ⟨w.heap.size + 2, 1, none⟩) (by show w.heap.size ≤ w.heap.size + 2; omega) (.int .i64 0))
    clear R2 I2
    go_wp2_with fail
    refine bodyPost_ret (v := .tuple #[.agg #[.int .i64 0, .int .i64 0], .int .i64 0, .bool false]) (by simp [results, Try.results19, go_sem, s0, s1]) rfl ⟨ew_ret F.out, BX.out⟩
  by_cases hsz : s.size ≤ 1000
  case neg =>
    have F : Hid (ewV rows x y s = none) := by simp [Hid, ewV, ewOk, hsz]
    have hsz1 : (1000 : Int) < (s.size : Int) := by omega
    have HA := Lib.hid (fun V (hV : GreyAt V w.heap.size A c rows) => HS.out V hV x y)
    rw [ha] at HA
    have HI := Lib.hid I0
    clear hg hn hr h hW I0 s1 s2 s3 s4 ha HS hsz
    go_enter Try.func19, Try.ntmps19
    go_wp2_with fail
    try simp only [hwB]
    refine (VG.out _ HI.out.ext).mono ?_
    rintro e w2 ⟨rfl, hb⟩
    have I2 := HI.out.step hb
    have q1 := I2.spot.cell 0
    have q2 := I2.spot.cell 1
    simp at q1 q2
    have HA2 := Lib.hid (HA.out w2 (I2.greyAt HM.out))
    have HI2 := Lib.hid I2
    clear I2
    go_wp2_with fail
    refine HA2.out.mono ?_
    rintro e w3 ⟨rfl, hb3⟩
    have I2 := HI2.out.step hb3
    have f0 := I2.res.free 0
    have f1 := I2.res.free 1
    have r0 := I2.res.cell 0
    have r1 := I2.res.cell 1
    simp at r0 r1
    have R2 := (I2.res.store 0 (.int .i64 0)).store 1 (.int .i64 0)
    have s0 := R2.cell 0
    have s1 := R2.cell 1
    simp at s0 s1
    have BX := Lib.hid ((I2.ext.setCell (p := ⟨w.heap.size + 2, 0, none⟩) (by show w.heap.size ≤ w.heap.size + 2; omega) (.int .i64 0)).setCell (p := ⟨w.heap.size + 2, 1, none⟩) (by show w.heap.size ≤ w.heap.size + 2; omega) (.int .i64 0))
    clear R2 I2
    go_wp2_with fail
    refine bodyPost_ret (v := .tuple #[.agg #[.int .i64 0, .int .i64 0], .int .i64 0, .bool false]) (by simp [results, Try.results19, go_sem, s0, s1]) rfl ⟨ew_ret F.out, BX.out⟩
  have F : Hid (ewV rows x y s = ewTo (gF rows W) W H s.data.toList (x, y) s.data.toList.length) := by simp [Hid, ewV, ewOk, inR, hW, hH, ha, hg, hsz]
  have hsz1 : ¬ (1000 : Int) < (s.size : Int) := by omega
  have HR := Lib.hid (fun y (hy : y < rows.length) => tab_row hg y hy)
  have HA := Lib.hid (fun V (hV : GreyAt V w.heap.size A c rows) => HS.out V hV x y)
  rw [ha] at HA
  have HAT := Lib.hid (fun V (hV : GreyAt V w.heap.size A c rows) (p : Int × Int) (hp : inG W H p = true) => (show Calls Try.prog 58 #[.pointer (some ⟨w.heap.size, 0, none⟩), .agg #[.int .i64 p.1, .int .i64 p.2]] V fun e w' => e = .returned (.int .i64 (gF rows W (plc W p))) ∧ Below V.heap.size V w' from by
    obtain ⟨p1, p2⟩ := p
    obtain ⟨a, b, rfl, rfl, h1, h2, h3⟩ := inG_nat hp
    rw [h3]
    exact g_at hV (fun y hy => by rw [← hW]; exact HR.out y hy) h1 (by rw [hH]; exact h2)))
  have HI := Lib.hid I0
  have INP := Lib.hid ha
  have hs4 : W ≤ 16 := by omega
  clear hg hn hr h hW I0 s1 s3 s4 ha HR
  generalize gF rows W = G at *
  go_enter Try.func19, Try.ntmps19
  go_wp2_with fail
  try simp only [hwB]
  refine (VG.out _ HI.out.ext).mono ?_
  rintro e w2 ⟨rfl, hb⟩
  have I2 := HI.out.step hb
  have q1 := I2.spot.cell 0
  have q2 := I2.spot.cell 1
  simp at q1 q2
  have HA2 := Lib.hid (HA.out w2 (I2.greyAt HM.out))
  have HI2 := Lib.hid I2
  clear I2
  go_wp2_with fail
  refine HA2.out.mono ?_
  rintro e w3 ⟨rfl, hb3⟩
  have I3 := HI2.out.step hb3
  clear q1 q2 HA2
  have q1 := I3.spot.cell 0
  have q2 := I3.spot.cell 1
  simp at q1 q2
  have HA3 := Lib.hid (HAT.out w3 (I3.greyAt HM.out) (x, y) INP.out)
  have HI3 := Lib.hid I3
  clear I3
  go_wp2_with fail
  refine HA3.out.mono ?_
  rintro e w4 ⟨rfl, hb4⟩
  have I4 := Lib.hid (HI3.out.step hb4)
  clear q1 q2 HA3 hb hb3 hb4 k0 k1 k2 HI HI2 HI3
  have HN : Hid (s.data.toList.length = s.size) := rfl
  go_wp2_with fail
  go_loopw [9, 10, 11, 30] (fun hi _ _ i wr => ∃ (k : Nat) (p1 p2 h : Int), k ≤ s.size ∧ i = .int .i64 k ∧ hi = .int .i64 h ∧ Hid (ewTo G W H s.data.toList (x, y) k = some ((p1, p2), h)) ∧ inG W H (p1, p2) = true ∧ EowI w A c rows (p1, p2) wr) (fun _ _ _ i _ => s.size - (intOf i).toNat)
  case atStart => exact ⟨0, x, y, _, Nat.zero_le _, rfl, rfl, rfl, INP.out, I4.out⟩
  case round =>
    obtain ⟨k, p1, p2, h, hk, rfl, rfl, hew, hin, hI⟩ := hrel
    by_cases hlt : k < s.size
    · obtain ⟨b, hb⟩ : ∃ b, s[k] = b := ⟨_, rfl⟩
      have EW : Hid (ewTo G W H s.data.toList (x, y) (k + 1) = ewS G W H (some ((p1, p2), h)) b) := by
        have e := ewTo_succ (G := G) (W := W) (H := H) (bs := s.data.toList) (p := (x, y)) (k := k) (by rw [HN.out]; exact hlt)
        rw [hew.out] at e
        rw [Hid, e, ← hb]; rfl
      have IB := Lib.hid (fun V => (Try.strings_IndexByte ⟨#[100, 108, 114, 117]⟩ (((s[k]'hlt).toNat : Nat) : Int) V).mono (fun e w' hh => (show e = .returned (.int .i64 (letK b)) ∧ w' = V from by
        rw [hh.1, ← hb]
        refine ⟨?_, hh.2⟩
        simp [letK])))
      have NX := Lib.hid (fun (hh : ewTo G W H s.data.toList (x, y) (k + 1) = none) => ewTo_none hh)
      have HB := Lib.hid hb
      clear hb
      have lk := letK_bd b
      have i0 : (0 : Int) ≤ (k : Int) := by omega
      have i1 : (k : Int) < (s.size : Int) := by omega
      obtain ⟨⟨g1, g2⟩, g3, g4⟩ := inG_iff.1 hin
      simp only at g1 g2 g3 g4
      by_cases hneg : letK b < 0
      · have NO := Lib.hid (NX.out (by rw [EW.out, ewS]; simp [hneg]))
        have e1 : letK b = -1 := by omega
        rw [e1] at IB
        clear lk hneg e1 EW NX
        go_wp2_with fail
        refine (IB.out _).mono ?_
        rintro e w5 ⟨rfl, rfl⟩
        have f0 := hI.res.free 0
        have f1 := hI.res.free 1
        have r0 := hI.res.cell 0
        have r1 := hI.res.cell 1
        simp at r0 r1
        have R2 := (hI.res.store 0 (.int .i64 0)).store 1 (.int .i64 0)
        have s0 := R2.cell 0
        have s1 := R2.cell 1
        simp at s0 s1
        have BX := Lib.hid ((hI.ext.setCell (p := ⟨w.heap.size + 2, 0, none⟩) (by show w.heap.size ≤ w.heap.size + 2; omega) (.int .i64 0)).setCell (p := ⟨w.heap.size + 2, 1, none⟩) (by show w.heap.size ≤ w.heap.size + 2; omega) (.int .i64 0))
        clear R2
        go_wp2_with fail
        refine bodyPost_ret (v := .tuple #[.agg #[.int .i64 0, .int .i64 0], .int .i64 0, .bool false]) (by simp [results, Try.results19, go_sem, s0, s1]) rfl ⟨by rw [F.out, NO.out]; rfl, BX.out⟩
      · have lk2 : letK b = 0 ∨ letK b = 1 ∨ letK b = 2 ∨ letK b = 3 := by omega
        have ST := Lib.hid (fun V => stepped_any p1 p2 (letK b) V (by omega) (by omega) lk2)
        obtain ⟨q, hq⟩ : ∃ q, stepP (p1, p2) (letK b) = q := ⟨_, rfl⟩
        have EW2 : Hid (ewTo G W H s.data.toList (x, y) (k + 1) = if inG W H q = true then some (q, max h (G (plc W q))) else none) := by
          rw [Hid, EW.out, ewS]; simp [hneg, hq]
        rw [hq] at ST
        clear hq EW lk2
        obtain ⟨q1, q2⟩ := q
        simp only at ST
        have q3 := hI.spot.cell 0
        have q4 := hI.spot.cell 1
        simp at q3 q4
        have HI0 := Lib.hid hI
        generalize letK b = κ at *
        have hneg2 : 0 ≤ κ := by omega
        clear hI lk hneg
        go_wp2_with fail
        refine (IB.out _).mono ?_
        rintro e w5 ⟨rfl, rfl⟩
        go_wp2_with fail
        refine (ST.out _).mono ?_
        rintro e w6 ⟨rfl, hb6⟩
        have I6 := HI0.out.step hb6
        have H6 := Lib.hid (HS.out w6 (I6.greyAt HM.out) q1 q2)
        have HI6 := Lib.hid I6
        clear I6 q3 q4
        cases hin2 : inG W H (q1, q2)
        · rw [hin2] at H6
          have NO := Lib.hid (NX.out (by rw [EW2.out, hin2]; rfl))
          go_wp2_with fail
          refine H6.out.mono ?_
          rintro e w7 ⟨rfl, hb7⟩
          have I7 := HI6.out.step hb7
          have f0 := I7.res.free 0
          have f1 := I7.res.free 1
          have r0 := I7.res.cell 0
          have r1 := I7.res.cell 1
          simp at r0 r1
          have R2 := (I7.res.store 0 (.int .i64 0)).store 1 (.int .i64 0)
          have s0 := R2.cell 0
          have s1 := R2.cell 1
          simp at s0 s1
          have BX := Lib.hid ((I7.ext.setCell (p := ⟨w.heap.size + 2, 0, none⟩) (by show w.heap.size ≤ w.heap.size + 2; omega) (.int .i64 0)).setCell (p := ⟨w.heap.size + 2, 1, none⟩) (by show w.heap.size ≤ w.heap.size + 2; omega) (.int .i64 0))
          clear R2
          go_wp2_with fail
          refine bodyPost_ret (v := .tuple #[.agg #[.int .i64 0, .int .i64 0], .int .i64 0, .bool false]) (by simp [results, Try.results19, go_sem, s0, s1]) rfl ⟨by rw [F.out, NO.out]; rfl, BX.out⟩
        · rw [hin2] at H6
          go_wp2_with fail
          refine H6.out.mono ?_
          rintro e w7 ⟨rfl, hb7⟩
          have I7 := HI6.out.step hb7
          have q3 := I7.spot.cell 0
          have q4 := I7.spot.cell 1
          simp at q3 q4
          have HI7 := Lib.hid I7
          clear I7 H6 hb7 hb6 HI6
          go_wp2_with fail
          refine (ST.out _).mono ?_
          rintro e w8 ⟨rfl, hb8⟩
          have I8 := HI7.out.step hb8
          clear q3 q4
          have q3 := I8.spot.cell 0
          have q4 := I8.spot.cell 1
          simp at q3 q4
          have f3 := I8.spot.free 0
          have f4 := I8.spot.free 1
          have I9 := I8.turn q1 q2
          have q5 := I9.spot.cell 0
          have q6 := I9.spot.cell 1
          simp at q5 q6
          have A9 := Lib.hid (HAT.out _ (I9.greyAt HM.out) (q1, q2) hin2)
          have HI9 := Lib.hid I9
          clear I8 I9
          go_wp2_with fail
          refine A9.out.mono ?_
          rintro e w9 ⟨rfl, hb9⟩
          have I10 := Lib.hid (HI9.out.step hb9)
          clear q3 q4 q5 q6 A9
          go_wp2_with fail
          go_roundw
          case rel => exact ⟨k + 1, q1, q2, max h (G (plc W (q1, q2))), by omega, by go_num, rfl, by rw [Hid, EW2.out, hin2]; rfl, hin2, I10.out⟩
          case measure => simp [intOf]; omega
    · obtain rfl : k = s.size := by omega
      have YES : Hid (ewV rows x y s = some ((p1, p2), h)) := by rw [Hid, F.out, HN.out, hew.out]
      have q3 := hI.spot.cell 0
      have q4 := hI.spot.cell 1
      have f0 := hI.res.free 0
      have f1 := hI.res.free 1
      have r0 := hI.res.cell 0
      have r1 := hI.res.cell 1
      simp at q3 q4 r0 r1
      have R2 := (hI.res.store 0 (.int .i64 p1)).store 1 (.int .i64 p2)
      have s0 := R2.cell 0
      have s1 := R2.cell 1
      simp at s0 s1
      have BX := Lib.hid ((hI.ext.setCell (p := ⟨w.heap.size + 2, 0, none⟩) (by show w.heap.size ≤ w.heap.size + 2; omega) (.int .i64 p1)).setCell (p := ⟨w.heap.size + 2, 1, none⟩) (by show w.heap.size ≤ w.heap.size + 2; omega) (.int .i64 p2))
      clear R2
      go_wp2_with fail
      refine bodyPost_ret (v := .tuple #[.agg #[.int .i64 p1, .int .i64 p2], .int .i64 h, .bool true]) (by simp [results, Try.results19, go_sem, s0, s1]) rfl ⟨by rw [YES.out]; rfl, BX.out⟩
end Go.Proofs.Ytajepoopicoodaa
