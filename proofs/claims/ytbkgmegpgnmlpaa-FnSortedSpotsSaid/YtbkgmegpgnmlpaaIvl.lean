/- Intervals of a box, and the next index in it: the program's and the reference's. -/
import Derived.Test.YtbkgmegpgnmlpaaIvZ
namespace Go.Proofs.Ytbkgmegpgnmlpaa
open Go.RowKit

set_option maxRecDepth 100000 in
set_option maxHeartbeats 1000000 in
theorem boxS_any (o fx fy tx ty : Int) (w : World) :
    Calls Try.prog 66 #[.int .i64 o, .agg #[.int .i64 fx, .int .i64 fy], .agg #[.int .i64 tx, .int .i64 ty]] w fun e w' => e = .returned (.bool (boxB o (fx, fy) (tx, ty))) ∧ Below w.heap.size w w' := by
  obtain ⟨wB, hwB⟩ : ∃ wB, (w.alloc (.cells #[.int .i64 fx, .int .i64 fy] 29)).alloc (.cells #[.int .i64 tx, .int .i64 ty] 29) = wB := ⟨_, rfl⟩
  have T1 : Blk wB w.heap.size 29 #[.int .i64 fx, .int .i64 fy] := by rw [← hwB]; exact (Blk.made w _ _).more _
  have T2 : Blk wB (w.heap.size + 1) 29 #[.int .i64 tx, .int .i64 ty] := by
    have := Blk.made (w.alloc (.cells #[.int .i64 fx, .int .i64 fy] 29)) 29 #[.int .i64 tx, .int .i64 ty]
    rw [hwB] at this; simpa using this
  have B1 : Below w.heap.size w wB := by rw [← hwB]; exact Ext.more (Ext.more (Ext.refl _) _) _
  have z2 : wB.heap.size = w.heap.size + 2 := by rw [← hwB]; simp
  have I0 := Lib.hid (fun V => inS_any o 0 4 V)
  have k0 := T1.cell 0
  have k1 := T1.cell 1
  have k2 := T2.cell 0
  have k3 := T2.cell 1
  simp at k0 k1 k2 k3
  have E : Hid (boxB o (fx, fy) (tx, ty) = (inB o 0 4 && (inB fx 0 (side o - 1) && (inB fy 0 (side o - 1) && (inB tx fx (side o - 1) && inB ty fy (side o - 1)))))) := rfl
  clear T1 T2 z2
  rw [E.out]
  clear E
  cases h0 : inB o 0 4
  · rw [h0] at I0
    clear h0
    go_enter Try.func66, Try.ntmps66
    go_wp2_with fail
    try simp only [hwB]
    refine (I0.out _).mono ?_
    rintro e w' ⟨rfl, rfl⟩
    go_wp2_with fail
    go_ret
    exact ⟨rfl, B1⟩
  obtain ⟨o0, o4⟩ := inB_iff.1 h0
  rw [h0] at I0
  clear h0
  have SD := Lib.hid (fun V => sideO_any o V o0 o4)
  have I1 := Lib.hid (fun V => inS_any fx 0 (side o - 1) V)
  have I2 := Lib.hid (fun V => inS_any fy 0 (side o - 1) V)
  have I3 := Lib.hid (fun V => inS_any tx fx (side o - 1) V)
  have I4 := Lib.hid (fun V => inS_any ty fy (side o - 1) V)
  have s1 := side_pos o0 o4
  have s2 := side_le o0 o4
  generalize inB fx 0 (side o - 1) = b1 at *
  generalize inB fy 0 (side o - 1) = b2 at *
  generalize inB tx fx (side o - 1) = b3 at *
  generalize inB ty fy (side o - 1) = b4 at *
  go_enter Try.func66, Try.ntmps66
  go_wp2_with fail
  try simp only [hwB]
  refine (I0.out _).mono ?_
  rintro e w' ⟨rfl, rfl⟩
  go_wp2_with fail
  refine (SD.out _).mono ?_
  rintro e w' ⟨rfl, rfl⟩
  go_wp2_with fail
  refine (I1.out _).mono ?_
  rintro e w' ⟨rfl, rfl⟩
  cases b1
  · go_wp2_with fail
    go_ret
    exact ⟨rfl, B1⟩
  go_wp2_with fail
  refine (I2.out _).mono ?_
  rintro e w' ⟨rfl, rfl⟩
  cases b2
  · go_wp2_with fail
    go_ret
    exact ⟨rfl, B1⟩
  go_wp2_with fail
  refine (I3.out _).mono ?_
  rintro e w' ⟨rfl, rfl⟩
  cases b3
  · go_wp2_with fail
    go_ret
    exact ⟨rfl, B1⟩
  go_wp2_with fail
  refine (I4.out _).mono ?_
  rintro e w' ⟨rfl, rfl⟩
  go_wp2_with fail
  go_ret
  exact ⟨rfl, B1⟩

/-- The first index of a box from i on, among m. -/
def nxS (V : List (Int × Int)) (f t : Int × Int) : Nat → Nat → Int × Bool
  | 0, _ => (0, false)
  | m + 1, i => if inBx f t (gp V i) then ((i : Int), true) else nxS V f t m (i + 1)
def ivR (V : List (Int × Int)) (f t : Int × Int) : Nat → Nat → List Int
  | 0, _ => []
  | m + 1, i => (if inBx f t (gp V i) then [(i : Int)] else []) ++ ivR V f t m (i + 1)
theorem ivR_eq (V : List (Int × Int)) (f t : Int × Int) : ∀ m i, ivN V f t (i + m) = ivN V f t i ++ ivR V f t m i := by
  intro m
  induction m with
  | zero => intro i; simp [ivR]
  | succ m ih => intro i; rw [show i + (m + 1) = (i + 1) + m from by omega, ih (i + 1), ivN_succ, ivR, List.append_assoc]
theorem ivR_ge (V : List (Int × Int)) (f t : Int × Int) : ∀ m i, ∀ x ∈ ivR V f t m i, (i : Int) ≤ x := by
  intro m
  induction m with
  | zero => intro i x hx; simp [ivR] at hx
  | succ m ih =>
    intro i x hx
    rw [ivR, List.mem_append] at hx
    rcases hx with h | h
    · split at h
      · rw [List.mem_singleton] at h; omega
      · simp at h
    · have := ih (i + 1) x h; omega
theorem nxS_eq (V : List (Int × Int)) (f t : Int × Int) : ∀ m i, nxS V f t m i = match ivR V f t m i with | [] => (0, false) | a :: _ => (a, true) := by
  intro m
  induction m with
  | zero => intro i; rfl
  | succ m ih =>
    intro i
    rw [nxS, ivR, ih (i + 1)]
    cases inBx f t (gp V i) <;> simp
/-- What the search in the sorted indices finds. -/
theorem nx_found (V : List (Int × Int)) (f t : Int × Int) {n i : Nat} (h : i ≤ n) :
    (ivN V f t n).countP (fun x => decide (x < (i : Int))) = (ivN V f t i).length ∧ (ivN V f t i).length ≤ (ivN V f t n).length ∧
    nxS V f t (n - i) i = if (ivN V f t i).length = (ivN V f t n).length then (0, false) else ((ivN V f t n).getD (ivN V f t i).length 0, true) := by
  obtain ⟨m, rfl⟩ : ∃ m, n = i + m := ⟨n - i, by omega⟩
  rw [ivR_eq, show i + m - i = m from by omega, nxS_eq]
  have h1 : (ivN V f t i).countP (fun x => decide (x < (i : Int))) = (ivN V f t i).length := by
    rw [List.countP_eq_length]
    intro x hx
    obtain ⟨k, rfl, hk, _⟩ := ivN_mem.1 hx
    simp; omega
  have h2 : (ivR V f t m i).countP (fun x => decide (x < (i : Int))) = 0 := by
    rw [List.countP_eq_zero]
    intro x hx
    have := ivR_ge V f t m i x hx
    simp; omega
  refine ⟨by rw [List.countP_append, h1, h2]; omega, by simp, ?_⟩
  generalize ivN V f t i = L
  cases ivR V f t m i with
  | nil => simp
  | cons a r => simp [List.getD_eq_getElem?_getD]

def ivOk (c o : Int) (f t : Int × Int) : Bool := curveOkB c o && boxB o f t
/-- The intervals of a box. -/
def ivP (c o : Int) (f t : Int × Int) : List (Int × Int) := if ivOk c o f t then spTo (visTo c o (side o).toNat (side o).toNat) f t ((side o).toNat * (side o).toNat) else []
def nxOk (c o : Int) (f t : Int × Int) (i : Int) : Bool := ivOk c o f t && inB i 0 (side o * side o - 1)
/-- The next index in a box. -/
def nxV (c o : Int) (f t : Int × Int) (i : Int) : Int × Bool := if nxOk c o f t i then nxS (visTo c o (side o).toNat (side o).toNat) f t ((side o).toNat * (side o).toNat - i.toNat) i.toNat else (0, false)
/-- A call has returned intervals of memory of its own. -/
def IvRes (w : World) (P : List (Int × Int)) (ok : Bool) (e : Ending) (w' : World) : Prop :=
  ∃ A c vs, e = .returned (.tuple #[.slice A P.length c, .bool ok]) ∧ MatAt w' w.heap.size w'.heap.size A c vs (prR P) ∧ Below w.heap.size w w'
theorem own_nil (w : World) (lo : Nat) (e : TypeId) (s : Nat) : w.ownsRow lo e s (.slice none 0 0) 0 [] := ⟨by simp, .inl ⟨rfl, rfl⟩⟩
theorem IvRes.no {w w' : World} {P : List (Int × Int)} {ok : Bool} (hP : P = []) (hok : ok = false) (hb : Below w.heap.size w w') : IvRes w P ok (.returned (.tuple #[.slice none 0 0, .bool false])) w' := by
  subst hP hok
  exact ⟨none, 0, [], rfl, MatAt.nil _ _ _ _ _ (own_nil _ _ _ _) (fun a ha => by cases ha), hb⟩
theorem ret_nx {p : Int × Bool} {a : Int} {b : Bool} (h : p = (a, b)) : Ending.returned (.tuple #[.int .i64 a, .bool b]) = .returned (.tuple #[.int .i64 p.1, .bool p.2]) := by rw [h]

set_option maxRecDepth 100000 in
set_option maxHeartbeats 2000000 in
theorem intervalsOf_any (c o fx fy tx ty : Int) (w : World) :
    Calls Try.prog 29 #[.int .i64 c, .int .i64 o, .agg #[.int .i64 fx, .int .i64 fy], .agg #[.int .i64 tx, .int .i64 ty]] w (IvRes w (ivP c o (fx, fy) (tx, ty)) (ivOk c o (fx, fy) (tx, ty))) := by
  obtain ⟨wB, hwB⟩ : ∃ wB, (w.alloc (.cells #[.int .i64 fx, .int .i64 fy] 29)).alloc (.cells #[.int .i64 tx, .int .i64 ty] 29) = wB := ⟨_, rfl⟩
  have T1 : Blk wB w.heap.size 29 #[.int .i64 fx, .int .i64 fy] := by rw [← hwB]; exact (Blk.made w _ _).more _
  have T2 : Blk wB (w.heap.size + 1) 29 #[.int .i64 tx, .int .i64 ty] := by
    have := Blk.made (w.alloc (.cells #[.int .i64 fx, .int .i64 fy] 29)) 29 #[.int .i64 tx, .int .i64 ty]
    rw [hwB] at this; simpa using this
  have B1 : Below w.heap.size w wB := by rw [← hwB]; exact Ext.more (Ext.more (Ext.refl _) _) _
  have z2 : wB.heap.size = w.heap.size + 2 := by rw [← hwB]; simp
  cases h1 : curveOkB c o
  · have F : Hid (ivP c o (fx, fy) (tx, ty) = [] ∧ ivOk c o (fx, fy) (tx, ty) = false) := by simp [Hid, ivP, ivOk, h1]
    clear T1 T2 z2
    go_enter Try.func29, Try.ntmps29
    go_wp2_with fail
    try simp only [hwB]
    refine (curveOk_any _ _ _).mono ?_
    rintro e w' ⟨rfl, rfl⟩
    go_wp2_with fail
    go_ret2
    exact IvRes.no F.out.1 F.out.2 B1
  obtain ⟨⟨hc0, hc3⟩, h0, h4⟩ := curveOk_iff.1 h1
  have BB := Lib.hid (fun V => box_any o fx fy tx ty V)
  have k0 := T1.cell 0
  have k1 := T1.cell 1
  have k2 := T2.cell 0
  have k3 := T2.cell 1
  simp at k0 k1 k2 k3
  cases h2 : boxB o (fx, fy) (tx, ty)
  · have F : Hid (ivP c o (fx, fy) (tx, ty) = [] ∧ ivOk c o (fx, fy) (tx, ty) = false) := by simp [Hid, ivP, ivOk, h2]
    rw [h2] at BB
    clear T1 T2 z2 h2
    go_enter Try.func29, Try.ntmps29
    go_wp2_with fail
    try simp only [hwB]
    refine (curveOk_any _ _ _).mono ?_
    rintro e w' ⟨rfl, rfl⟩
    go_wp2_with fail
    refine (BB.out _).mono ?_
    rintro e w2 ⟨rfl, hb2⟩
    go_wp2_with fail
    go_ret2
    exact IvRes.no F.out.1 F.out.2 (Ext.then_ B1 hb2)
  have hS1 := side_pos h0 h4
  have hS2 := side_le h0 h4
  obtain ⟨s, hs⟩ := Int.eq_ofNat_of_zero_le (show 0 ≤ side o by omega)
  have F : Hid (ivP c o (fx, fy) (tx, ty) = spTo (visTo c o s s) (fx, fy) (tx, ty) (s * s) ∧ ivOk c o (fx, fy) (tx, ty) = true) := by
    have e : ivOk c o (fx, fy) (tx, ty) = true := by simp [ivOk, h1, h2]
    exact ⟨by rw [ivP, if_pos e, hs]; rfl, e⟩
  have BX := Lib.hid (fun U => boxed_any c o fx fy tx ty U hc0 hc3 h2 s hs)
  have PB := Lib.hid (fun (base g cap : Nat) (U : World) => part_box (V := visTo c o s s) (f := (fx, fy)) (t := (tx, ty)) (base := base) (g := g) (cap := cap) (w := U) (show s ≤ 16 by omega))
  rw [h2] at BB
  rw [F.out.1, F.out.2]
  have GX := Lib.hid (fun V (hb : Below wB.heap.size wB V) => And.intro (T1.under hb T1.lt) (T2.under hb T2.lt))
  generalize spTo (visTo c o s s) (fx, fy) (tx, ty) (s * s) = P at *
  generalize ivN (visTo c o s s) (fx, fy) (tx, ty) (s * s) = L at *
  clear T1 T2 h2 hs F hS1 hS2
  go_enter Try.func29, Try.ntmps29
  go_wp2_with fail
  try simp only [hwB]
  refine (curveOk_any _ _ _).mono ?_
  rintro e w' ⟨rfl, rfl⟩
  go_wp2_with fail
  refine (BB.out _).mono ?_
  rintro e w2 ⟨rfl, hb2⟩
  clear k0 k1 k2 k3
  have k0 := (GX.out _ hb2).1.cell 0
  have k1 := (GX.out _ hb2).1.cell 1
  have k2 := (GX.out _ hb2).2.cell 0
  have k3 := (GX.out _ hb2).2.cell 1
  simp at k0 k1 k2 k3
  go_wp2_with fail
  refine (BX.out _).mono ?_
  rintro e w3 ⟨g, cap, rfl, hown, hb3⟩
  have C := Lib.hid (PB.out _ g cap w3 hown)
  clear hown
  go_wp2_with fail
  refine (C.out).mono ?_
  rintro e w4 ⟨A, c4, vs, rfl, hM, hb4⟩
  have HM := Lib.hid hM
  have z3 := hb3.size
  have z4 := hb2.size
  clear hM
  go_wp2_with fail
  go_ret2
  exact ⟨A, c4, vs, rfl, HM.out.low (by omega) (Nat.le_refl _), Ext.then_ B1 (Ext.then_ hb2 (Ext.then_ hb3 hb4))⟩
set_option maxRecDepth 100000 in
set_option maxHeartbeats 2000000 in
theorem intervalsOfS_any (c o fx fy tx ty : Int) (w : World) :
    Calls Try.prog 28 #[.int .i64 c, .int .i64 o, .agg #[.int .i64 fx, .int .i64 fy], .agg #[.int .i64 tx, .int .i64 ty]] w (IvRes w (ivP c o (fx, fy) (tx, ty)) (ivOk c o (fx, fy) (tx, ty))) := by
  obtain ⟨wB, hwB⟩ : ∃ wB, (w.alloc (.cells #[.int .i64 fx, .int .i64 fy] 29)).alloc (.cells #[.int .i64 tx, .int .i64 ty] 29) = wB := ⟨_, rfl⟩
  have T1 : Blk wB w.heap.size 29 #[.int .i64 fx, .int .i64 fy] := by rw [← hwB]; exact (Blk.made w _ _).more _
  have T2 : Blk wB (w.heap.size + 1) 29 #[.int .i64 tx, .int .i64 ty] := by
    have := Blk.made (w.alloc (.cells #[.int .i64 fx, .int .i64 fy] 29)) 29 #[.int .i64 tx, .int .i64 ty]
    rw [hwB] at this; simpa using this
  have B1 : Below w.heap.size w wB := by rw [← hwB]; exact Ext.more (Ext.more (Ext.refl _) _) _
  have z2 : wB.heap.size = w.heap.size + 2 := by rw [← hwB]; simp
  cases h1 : curveOkB c o
  · have F : Hid (ivP c o (fx, fy) (tx, ty) = [] ∧ ivOk c o (fx, fy) (tx, ty) = false) := by simp [Hid, ivP, ivOk, h1]
    clear T1 T2 z2
    go_enter Try.func28, Try.ntmps28
    go_wp2_with fail
    try simp only [hwB]
    refine (ask_any _ _ _).mono ?_
    rintro e w' ⟨rfl, rfl⟩
    go_wp2_with fail
    go_ret2
    exact IvRes.no F.out.1 F.out.2 B1
  obtain ⟨⟨hc0, hc3⟩, h0, h4⟩ := curveOk_iff.1 h1
  have BB := Lib.hid (fun V => boxS_any o fx fy tx ty V)
  have k0 := T1.cell 0
  have k1 := T1.cell 1
  have k2 := T2.cell 0
  have k3 := T2.cell 1
  simp at k0 k1 k2 k3
  cases h2 : boxB o (fx, fy) (tx, ty)
  · have F : Hid (ivP c o (fx, fy) (tx, ty) = [] ∧ ivOk c o (fx, fy) (tx, ty) = false) := by simp [Hid, ivP, ivOk, h2]
    rw [h2] at BB
    clear T1 T2 z2 h2
    go_enter Try.func28, Try.ntmps28
    go_wp2_with fail
    try simp only [hwB]
    refine (ask_any _ _ _).mono ?_
    rintro e w' ⟨rfl, rfl⟩
    go_wp2_with fail
    refine (BB.out _).mono ?_
    rintro e w2 ⟨rfl, hb2⟩
    go_wp2_with fail
    go_ret2
    exact IvRes.no F.out.1 F.out.2 (Ext.then_ B1 hb2)
  have hS1 := side_pos h0 h4
  have hS2 := side_le h0 h4
  obtain ⟨s, hs⟩ := Int.eq_ofNat_of_zero_le (show 0 ≤ side o by omega)
  have F : Hid (ivP c o (fx, fy) (tx, ty) = spTo (visTo c o s s) (fx, fy) (tx, ty) (s * s) ∧ ivOk c o (fx, fy) (tx, ty) = true) := by
    have e : ivOk c o (fx, fy) (tx, ty) = true := by simp [ivOk, h1, h2]
    exact ⟨by rw [ivP, if_pos e, hs]; rfl, e⟩
  have hs16 : s ≤ 16 := by omega
  have hss : s * s ≤ 256 := Nat.le_trans (Nat.mul_le_mul hs16 hs16) (by decide)
  have VS := Lib.hid (fun U => spotsS_any c o U hc0 hc3 h0 h4 s hs)
  have IV := Lib.hid (fun (g : Nat) U (h : SpAt U g (visTo c o s s)) => intervalsS_any g (s * s) (s * s) (visTo c o s s) fx fy tx ty U h (visTo_length c o s s) (by omega))
  rw [h2] at BB
  rw [F.out.1, F.out.2]
  have GX := Lib.hid (fun V (hb : Below wB.heap.size wB V) => And.intro (T1.under hb T1.lt) (T2.under hb T2.lt))
  generalize spTo (visTo c o s s) (fx, fy) (tx, ty) (s * s) = P at *
  generalize visTo c o s s = V at *
  clear T1 T2 h2 hs F hS1 hS2
  go_enter Try.func28, Try.ntmps28
  go_wp2_with fail
  try simp only [hwB]
  refine (ask_any _ _ _).mono ?_
  rintro e w' ⟨rfl, rfl⟩
  go_wp2_with fail
  refine (BB.out _).mono ?_
  rintro e w2 ⟨rfl, hb2⟩
  clear k0 k1 k2 k3
  have k0 := (GX.out _ hb2).1.cell 0
  have k1 := (GX.out _ hb2).1.cell 1
  have k2 := (GX.out _ hb2).2.cell 0
  have k3 := (GX.out _ hb2).2.cell 1
  simp at k0 k1 k2 k3
  have z4 := hb2.size
  go_wp2_with fail
  go_region_held3 (fun w' => w'.cell? ⟨w.heap.size, 0, none⟩ = some (.int .i64 fx) ∧ w'.cell? ⟨w.heap.size, 1, none⟩ = some (.int .i64 fy) ∧ w'.cell? ⟨w.heap.size + 1, 0, none⟩ = some (.int .i64 tx) ∧ w'.cell? ⟨w.heap.size + 1, 1, none⟩ = some (.int .i64 ty))
    (first | ((go_split_ands; refine ⟨?_, ?_, ?_, ?_⟩ <;> exact (hb'.cell (p := ⟨_, _, none⟩) (by first | omega | (simp; omega) | simp)).trans (by assumption))) | go_keep)
    (first
      | (go_at_call 60; refine (VS.out _).mono ?_; rintro e w3 ⟨rfl, hB3, hb'⟩; have hs3 := hb'; have z3 : w2.heap.size ≤ w3.heap.size := hb'.size)
      | (go_at_call 63; refine (IV.out _ _ hB3.spots).mono ?_; rintro e w4 ⟨A, c4, vs, rfl, hM, hb4⟩; have hb' := hb4))
  have HB := Ext.then_ B1 (Ext.then_ hb2 (Ext.undraw (Ext.then_ hs3 hb4)))
  have HM := Lib.hid hM
  clear hM hB3 hb' hs3 hb4
  go_wp2_with fail
  go_ret2
  exact ⟨A, c4, vs, rfl, HM.out.low (by omega) (Nat.le_refl _), HB⟩
set_option maxRecDepth 100000 in
set_option maxHeartbeats 2000000 in
theorem nextInBox_any (c o fx fy tx ty i : Int) (w : World) :
    Calls Try.prog 27 #[.int .i64 c, .int .i64 o, .agg #[.int .i64 fx, .int .i64 fy], .agg #[.int .i64 tx, .int .i64 ty], .int .i64 i] w fun e w' => e = .returned (.tuple #[.int .i64 (nxV c o (fx, fy) (tx, ty) i).1, .bool (nxV c o (fx, fy) (tx, ty) i).2]) ∧ Below w.heap.size w w' := by
  obtain ⟨wB, hwB⟩ : ∃ wB, (w.alloc (.cells #[.int .i64 fx, .int .i64 fy] 29)).alloc (.cells #[.int .i64 tx, .int .i64 ty] 29) = wB := ⟨_, rfl⟩
  have T1 : Blk wB w.heap.size 29 #[.int .i64 fx, .int .i64 fy] := by rw [← hwB]; exact (Blk.made w _ _).more _
  have T2 : Blk wB (w.heap.size + 1) 29 #[.int .i64 tx, .int .i64 ty] := by
    have := Blk.made (w.alloc (.cells #[.int .i64 fx, .int .i64 fy] 29)) 29 #[.int .i64 tx, .int .i64 ty]
    rw [hwB] at this; simpa using this
  have B1 : Below w.heap.size w wB := by rw [← hwB]; exact Ext.more (Ext.more (Ext.refl _) _) _
  have z2 : wB.heap.size = w.heap.size + 2 := by rw [← hwB]; simp
  cases h1 : curveOkB c o
  · have F : Hid (nxV c o (fx, fy) (tx, ty) i = (0, false)) := by simp [Hid, nxV, nxOk, ivOk, h1]
    clear T1 T2 z2
    go_enter Try.func27, Try.ntmps27
    go_wp2_with fail
    try simp only [hwB]
    refine (curveOk_any _ _ _).mono ?_
    rintro e w' ⟨rfl, rfl⟩
    go_wp2_with fail
    go_ret2
    exact ⟨ret_nx F.out, B1⟩
  obtain ⟨⟨hc0, hc3⟩, h0, h4⟩ := curveOk_iff.1 h1
  have BB := Lib.hid (fun V => box_any o fx fy tx ty V)
  have k0 := T1.cell 0
  have k1 := T1.cell 1
  have k2 := T2.cell 0
  have k3 := T2.cell 1
  simp at k0 k1 k2 k3
  cases h2 : boxB o (fx, fy) (tx, ty)
  · have F : Hid (nxV c o (fx, fy) (tx, ty) i = (0, false)) := by simp [Hid, nxV, nxOk, ivOk, h2]
    rw [h2] at BB
    clear T1 T2 z2 h2
    go_enter Try.func27, Try.ntmps27
    go_wp2_with fail
    try simp only [hwB]
    refine (curveOk_any _ _ _).mono ?_
    rintro e w' ⟨rfl, rfl⟩
    go_wp2_with fail
    refine (BB.out _).mono ?_
    rintro e w2 ⟨rfl, hb2⟩
    go_wp2_with fail
    go_ret2
    exact ⟨ret_nx F.out, Ext.then_ B1 hb2⟩
  have hS : wrap64 (2 ^ (2 * o).toNat) = side o * side o := by
    rcases side_cases h0 h4 with rfl | rfl | rfl | rfl | rfl <;> decide +kernel
  have hS1 := side_pos h0 h4
  have hS2 := side_le h0 h4
  have hss : side o * side o ≤ 256 := by
    have h1 : side o * side o ≤ 16 * side o := Int.mul_le_mul_of_nonneg_right (by omega) (by omega)
    omega
  have hss0 : 0 ≤ side o * side o := Int.mul_nonneg (by omega) (by omega)
  have I3 := Lib.hid (fun V => in_any i 0 (side o * side o - 1) V)
  rw [h2] at BB
  cases h3 : inB i 0 (side o * side o - 1)
  · have F : Hid (nxV c o (fx, fy) (tx, ty) i = (0, false)) := by simp [Hid, nxV, nxOk, h3]
    rw [h3] at I3
    clear T1 T2 z2 h2 h3
    go_enter Try.func27, Try.ntmps27
    go_wp2_with fail
    try simp only [hwB]
    refine (curveOk_any _ _ _).mono ?_
    rintro e w' ⟨rfl, rfl⟩
    go_wp2_with fail
    refine (BB.out _).mono ?_
    rintro e w2 ⟨rfl, hb2⟩
    go_wp2_with fail
    refine (I3.out _).mono ?_
    rintro e w' ⟨rfl, rfl⟩
    go_wp2_with fail
    go_ret2
    exact ⟨ret_nx F.out, Ext.then_ B1 hb2⟩
  obtain ⟨i0, i1⟩ := inB_iff.1 h3
  rw [h3] at I3
  obtain ⟨i, rfl⟩ := Int.eq_ofNat_of_zero_le i0
  obtain ⟨s, hs⟩ := Int.eq_ofNat_of_zero_le (show 0 ≤ side o by omega)
  have hin : i < s * s := by
    rw [hs, ← Int.natCast_mul] at i1; omega
  have F : Hid (nxV c o (fx, fy) (tx, ty) i = nxS (visTo c o s s) (fx, fy) (tx, ty) (s * s - i) i) := by
    have e : nxOk c o (fx, fy) (tx, ty) i = true := by simp [nxOk, ivOk, h1, h2, h3]
    rw [Hid, nxV, if_pos e, hs]; rfl
  have BX := Lib.hid (fun U => boxed_any c o fx fy tx ty U hc0 hc3 h2 s hs)
  obtain ⟨NF1, NF2, NF3⟩ := nx_found (visTo c o s s) (fx, fy) (tx, ty) (n := s * s) (i := i) (Nat.le_of_lt hin)
  have hso : (ivN (visTo c o s s) (fx, fy) (tx, ty) (s * s)).Pairwise (· ≤ ·) := (ivN_sorted _ _ _ _).imp (fun h => by omega)
  have hle := ivN_len (visTo c o s s) (fx, fy) (tx, ty) (s * s)
  have hss' : s * s ≤ 256 := by rw [hs, ← Int.natCast_mul] at hss; omega
  have NF := Lib.hid NF3
  generalize nxS (visTo c o s s) (fx, fy) (tx, ty) (s * s - i) i = R at *
  generalize (ivN (visTo c o s s) (fx, fy) (tx, ty) i).length = K at *
  generalize ivN (visTo c o s s) (fx, fy) (tx, ty) (s * s) = L at *
  have SR := Lib.hid (fun base g cap U h => search_any (base := base) (g := g) (cap := cap) (n := L.length) (L := L) (i : Int) U h rfl (by omega) hso)
  rw [NF1] at SR
  have GX := Lib.hid (fun V (hb : Below wB.heap.size wB V) => And.intro (T1.under hb T1.lt) (T2.under hb T2.lt))
  obtain ⟨N, hN⟩ : ∃ N, L.length = N := ⟨_, rfl⟩
  have HN := Lib.hid hN
  rw [hN] at BX SR hle NF2 NF
  clear T1 T2 h2 h3 hs NF1 NF3 hso hN i0 i1
  go_enter Try.func27, Try.ntmps27
  go_wp2_with fail
  try simp only [hwB]
  refine (curveOk_any _ _ _).mono ?_
  rintro e w' ⟨rfl, rfl⟩
  go_wp2_with fail
  refine (BB.out _).mono ?_
  rintro e w2 ⟨rfl, hb2⟩
  go_wp2_with fail
  refine (I3.out _).mono ?_
  rintro e w' ⟨rfl, rfl⟩
  clear k0 k1 k2 k3
  have k0 := (GX.out _ hb2).1.cell 0
  have k1 := (GX.out _ hb2).1.cell 1
  have k2 := (GX.out _ hb2).2.cell 0
  have k3 := (GX.out _ hb2).2.cell 1
  simp at k0 k1 k2 k3
  go_wp2_with fail
  refine (BX.out _).mono ?_
  rintro e w3 ⟨g, cap, rfl, hown, hb3⟩
  have hI := Lib.hid (own_ints' hown HN.out)
  have C := Lib.hid (SR.out _ g cap w3 hown)
  clear hown
  go_wp2_with fail
  refine (C.out).mono ?_
  rintro e w4 ⟨rfl, q, rfl⟩
  have HB := Ext.then_ B1 (Ext.then_ hb2 hb3)
  by_cases hk : K = N
  · have t0 : ((K : Int) == (N : Int)) = true := by simp [hk]
    have F2 : Hid (R = (0, false)) := by rw [Hid, NF.out, if_pos hk]
    have HK := Lib.hid hk
    clear hk
    go_wp2_with fail
    go_ret2
    exact ⟨ret_nx (F.out.trans F2.out), Ext.drawN HB q⟩
  · have t0 : ((K : Int) == (N : Int)) = false := by simp; omega
    have F2 : Hid (R = (L.getD K 0, true)) := by rw [Hid, NF.out, if_neg hk]
    have hlt : K < L.length := by have := HN.out; omega
    have c1 := hI.out.2 K hlt
    have e1 : L[K] = L.getD K 0 := by rw [List.getD_eq_getElem?_getD, List.getElem?_eq_getElem hlt]; rfl
    rw [e1] at c1
    have i0 : (0 : Int) ≤ (K : Int) := by omega
    have i1 : (K : Int) < (N : Int) := by omega
    generalize L.getD K 0 = x at *
    clear hk hlt e1
    go_wp2_with fail
    go_ret2
    exact ⟨ret_nx (F.out.trans F2.out), Ext.drawN HB q⟩
set_option maxRecDepth 100000 in
set_option maxHeartbeats 2000000 in
theorem nextInBoxS_any (c o fx fy tx ty i : Int) (w : World) :
    Calls Try.prog 25 #[.int .i64 c, .int .i64 o, .agg #[.int .i64 fx, .int .i64 fy], .agg #[.int .i64 tx, .int .i64 ty], .int .i64 i] w fun e w' => e = .returned (.tuple #[.int .i64 (nxV c o (fx, fy) (tx, ty) i).1, .bool (nxV c o (fx, fy) (tx, ty) i).2]) ∧ Below w.heap.size w w' := by
  obtain ⟨wB, hwB⟩ : ∃ wB, (w.alloc (.cells #[.int .i64 fx, .int .i64 fy] 29)).alloc (.cells #[.int .i64 tx, .int .i64 ty] 29) = wB := ⟨_, rfl⟩
  have T1 : Blk wB w.heap.size 29 #[.int .i64 fx, .int .i64 fy] := by rw [← hwB]; exact (Blk.made w _ _).more _
  have T2 : Blk wB (w.heap.size + 1) 29 #[.int .i64 tx, .int .i64 ty] := by
    have := Blk.made (w.alloc (.cells #[.int .i64 fx, .int .i64 fy] 29)) 29 #[.int .i64 tx, .int .i64 ty]
    rw [hwB] at this; simpa using this
  have B1 : Below w.heap.size w wB := by rw [← hwB]; exact Ext.more (Ext.more (Ext.refl _) _) _
  have z2 : wB.heap.size = w.heap.size + 2 := by rw [← hwB]; simp
  cases h1 : curveOkB c o
  · have F : Hid (nxV c o (fx, fy) (tx, ty) i = (0, false)) := by simp [Hid, nxV, nxOk, ivOk, h1]
    clear T1 T2 z2
    go_enter Try.func25, Try.ntmps25
    go_wp2_with fail
    try simp only [hwB]
    refine (ask_any _ _ _).mono ?_
    rintro e w' ⟨rfl, rfl⟩
    go_wp2_with fail
    go_ret2
    exact ⟨ret_nx F.out, B1⟩
  obtain ⟨⟨hc0, hc3⟩, h0, h4⟩ := curveOk_iff.1 h1
  have BB := Lib.hid (fun V => boxS_any o fx fy tx ty V)
  have k0 := T1.cell 0
  have k1 := T1.cell 1
  have k2 := T2.cell 0
  have k3 := T2.cell 1
  simp at k0 k1 k2 k3
  cases h2 : boxB o (fx, fy) (tx, ty)
  · have F : Hid (nxV c o (fx, fy) (tx, ty) i = (0, false)) := by simp [Hid, nxV, nxOk, ivOk, h2]
    rw [h2] at BB
    clear T1 T2 z2 h2
    go_enter Try.func25, Try.ntmps25
    go_wp2_with fail
    try simp only [hwB]
    refine (ask_any _ _ _).mono ?_
    rintro e w' ⟨rfl, rfl⟩
    go_wp2_with fail
    refine (BB.out _).mono ?_
    rintro e w2 ⟨rfl, hb2⟩
    go_wp2_with fail
    go_ret2
    exact ⟨ret_nx F.out, Ext.then_ B1 hb2⟩
  have hS1 := side_pos h0 h4
  have hS2 := side_le h0 h4
  have hss : side o * side o ≤ 256 := by
    have h1 : side o * side o ≤ 16 * side o := Int.mul_le_mul_of_nonneg_right (by omega) (by omega)
    omega
  have hss0 : 0 ≤ side o * side o := Int.mul_nonneg (by omega) (by omega)
  have SD := Lib.hid (fun V => sideO_any o V h0 h4)
  have I3 := Lib.hid (fun V => inS_any i 0 (side o * side o - 1) V)
  rw [h2] at BB
  cases h3 : inB i 0 (side o * side o - 1)
  · have F : Hid (nxV c o (fx, fy) (tx, ty) i = (0, false)) := by simp [Hid, nxV, nxOk, h3]
    rw [h3] at I3
    clear T1 T2 z2 h2 h3
    go_enter Try.func25, Try.ntmps25
    go_wp2_with fail
    try simp only [hwB]
    refine (ask_any _ _ _).mono ?_
    rintro e w' ⟨rfl, rfl⟩
    go_wp2_with fail
    refine (BB.out _).mono ?_
    rintro e w2 ⟨rfl, hb2⟩
    go_wp2_with fail
    refine (SD.out _).mono ?_
    rintro e w' ⟨rfl, rfl⟩
    go_wp2_with fail
    refine (SD.out _).mono ?_
    rintro e w' ⟨rfl, rfl⟩
    go_wp2_with fail
    refine (I3.out _).mono ?_
    rintro e w' ⟨rfl, rfl⟩
    go_wp2_with fail
    go_ret2
    exact ⟨ret_nx F.out, Ext.then_ B1 hb2⟩
  obtain ⟨i0, i1⟩ := inB_iff.1 h3
  rw [h3] at I3
  obtain ⟨i, rfl⟩ := Int.eq_ofNat_of_zero_le i0
  obtain ⟨s, hs⟩ := Int.eq_ofNat_of_zero_le (show 0 ≤ side o by omega)
  have hin : i < s * s := by
    rw [hs, ← Int.natCast_mul] at i1; omega
  have F : Hid (nxV c o (fx, fy) (tx, ty) i = nxS (visTo c o s s) (fx, fy) (tx, ty) (s * s - i) i) := by
    have e : nxOk c o (fx, fy) (tx, ty) i = true := by simp [nxOk, ivOk, h1, h2, h3]
    rw [Hid, nxV, if_pos e, hs]; rfl
  have VS := Lib.hid (fun U => spotsS_any c o U hc0 hc3 h0 h4 s hs)
  have hl := visTo_length c o s s
  have hss' : s * s ≤ 256 := by rw [hs, ← Int.natCast_mul] at hss; omega
  generalize visTo c o s s = V at *
  generalize nxV c o (fx, fy) (tx, ty) i = R at *
  have GX := Lib.hid (fun U (hb : Below wB.heap.size wB U) => And.intro (T1.under hb T1.lt) (T2.under hb T2.lt))
  have INk := Lib.hid (fun p : Int × Int => fun U => inS8_any p.1 p.2 fx fy tx ty U)
  obtain ⟨n, hn⟩ : ∃ n, s * s = n := ⟨_, rfl⟩
  rw [hn] at hl F VS hin hss'
  have HL := Lib.hid hl
  clear T1 T2 h2 h3 hs hl hn i0 i1
  go_enter Try.func25, Try.ntmps25
  go_wp2_with fail
  try simp only [hwB]
  refine (ask_any _ _ _).mono ?_
  rintro e w' ⟨rfl, rfl⟩
  go_wp2_with fail
  refine (BB.out _).mono ?_
  rintro e w2 ⟨rfl, hb2⟩
  go_wp2_with fail
  refine (SD.out _).mono ?_
  rintro e w' ⟨rfl, rfl⟩
  go_wp2_with fail
  refine (SD.out _).mono ?_
  rintro e w' ⟨rfl, rfl⟩
  go_wp2_with fail
  refine (I3.out _).mono ?_
  rintro e w' ⟨rfl, rfl⟩
  go_wp2_with fail
  refine (VS.out _).mono ?_
  rintro e w3 ⟨rfl, hB3, hb3⟩
  have hL := hB3.spots
  have B3 := Ext.then_ hb2 hb3
  clear hB3 k0 k1 k2 k3
  obtain ⟨g, hg⟩ : ∃ g, g = w2.heap.size := ⟨_, rfl⟩
  rw [← hg] at hL
  rw [← hg]
  clear hg
  go_wp2_with fail
  go_loopw [13] (fun v wr => ∃ j : Nat, j ≤ n ∧ v = .int .i64 j ∧ nxS V (fx, fy) (tx, ty) (n - j) j = R ∧ Below w3.heap.size w3 wr) (fun v _ => n - (intOf v).toNat)
  case atStart => exact ⟨i, Nat.le_of_lt hin, rfl, F.out.symm, Ext.refl _⟩
  case round =>
    obtain ⟨j, hj, rfl, hR, hb⟩ := hrel
    by_cases hlt : j < n
    · have HR : Hid ((if inBx (fx, fy) (tx, ty) (gp V j) then ((j : Int), true) else nxS V (fx, fy) (tx, ty) (n - (j + 1)) (j + 1)) = R) := by
        rw [show n - j = (n - (j + 1)) + 1 from by omega, nxS] at hR
        exact hR
      have VA := hL.ext hb
      have hjl : j < V.length := by rw [HL.out]; exact hlt
      obtain ⟨c1, c2⟩ := VA.2 j hjl
      have gl := VA.1
      have e1 : V[j] = gp V j := by rw [gp, List.getD_eq_getElem?_getD, List.getElem?_eq_getElem hjl]; rfl
      rw [e1] at c1 c2
      have IN := Lib.hid (INk.out (gp V j))
      generalize gp V j = p at *
      obtain ⟨px, py⟩ := p
      simp only at c1 c2 IN
      obtain ⟨q2, q3⟩ := GX.out _ (Ext.then_ B3 hb)
      have k2 := q2.cell 0
      have k3 := q2.cell 1
      have k4 := q3.cell 0
      have k5 := q3.cell 1
      simp at k2 k3 k4 k5
      have l2 := q2.lt
      have l3 := q3.lt
      have i0 : (0 : Int) ≤ (j : Int) := by omega
      have i1 : (j : Int) < (n : Int) := by omega
      clear e1 hR q2 q3 VA hjl
      generalize inBx (fx, fy) (tx, ty) (px, py) = b at *
      go_wp2_with fail
      refine wp_region_held_quiet (fun U => Below wr.heap.size wr U) (by kernel_rfl) (by kernel_rfl) (Ext.refl _).drew ?_
      have ne : Nonempty (HeldW (fun U => Below wr.heap.size wr U)) := ⟨⟨wr, Ext.refl _⟩⟩
      have v0 : ∀ i : HeldW (fun U => Below wr.heap.size wr U), i.w.cell? ⟨g, j * 2, none⟩ = _ := fun i => (i.h.cell (p := ⟨g, j * 2, none⟩) gl).trans c1
      have v1 : ∀ i : HeldW (fun U => Below wr.heap.size wr U), i.w.cell? ⟨g, j * 2 + 1, none⟩ = _ := fun i => (i.h.cell (p := ⟨g, j * 2 + 1, none⟩) gl).trans c2
      have v2 : ∀ i : HeldW (fun U => Below wr.heap.size wr U), i.w.cell? ⟨w.heap.size, 0, none⟩ = _ := fun i => (i.h.cell (p := ⟨w.heap.size, 0, none⟩) l2).trans k2
      have v3 : ∀ i : HeldW (fun U => Below wr.heap.size wr U), i.w.cell? ⟨w.heap.size, 1, none⟩ = _ := fun i => (i.h.cell (p := ⟨w.heap.size, 1, none⟩) l2).trans k3
      have v4 : ∀ i : HeldW (fun U => Below wr.heap.size wr U), i.w.cell? ⟨w.heap.size + 1, 0, none⟩ = _ := fun i => (i.h.cell (p := ⟨w.heap.size + 1, 0, none⟩) l3).trans k4
      have v5 : ∀ i : HeldW (fun U => Below wr.heap.size wr U), i.w.cell? ⟨w.heap.size + 1, 1, none⟩ = _ := fun i => (i.h.cell (p := ⟨w.heap.size + 1, 1, none⟩) l3).trans k5
      repeat (go_big_quiet_step ((go_at_call 67; exact Calls.above_of _ (IN.out _))))
      refine wpQuiet_nil ?_
      intro w4 hw'
      obtain ⟨⟨_, hb4⟩, rfl⟩ := hw'
      clear ne v0 v1 v2 v3 v4 v5
      have HB := Ext.then_ hb hb4
      cases b
      · go_wp2_with fail
        go_roundw
        case rel => exact ⟨j + 1, by omega, by go_num, by simpa using HR.out, HB⟩
        case measure => simp [intOf]; omega
      · go_wp2_with fail
        go_ret2
        exact ⟨ret_nx (by simpa using HR.out.symm), Ext.then_ B1 (Ext.then_ B3 HB)⟩
    · obtain rfl : j = n := by omega
      have F2 : Hid (R = (0, false)) := by rw [Hid, ← hR, Nat.sub_self]; rfl
      clear hR
      go_wp2_with fail
      go_ret2
      exact ⟨ret_nx F2.out, Ext.then_ B1 (Ext.then_ B3 hb)⟩
end Go.Proofs.Ytbkgmegpgnmlpaa
