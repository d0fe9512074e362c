/- Thinned pictures: the program's. -/
import Derived.Test.YtdhajndmebnknaaGreatOneS
namespace Go.Proofs.YtdhajndmebnknaaGreat
open Go.RowKit

set_option maxRecDepth 100000 in
set_option maxHeartbeats 1000000 in
theorem simple_any (p g cap : Nat) (sp : List Value) (W H : Nat) (L : List Bool) (x y : Int) (e : Bool) (w : World) (h : ImgG w p g cap sp W H L) (hW : W ≤ 1000) (hH : H ≤ 1000) (hx : -18 ≤ x ∧ x ≤ 18) (hy : -18 ≤ y ∧ y ≤ 18) :
    Calls Tryz.prog 33 #[.pointer (some ⟨p, 0, none⟩), .agg #[.int .i64 x, .int .i64 y], .bool e] w fun e' w' => e' = .returned (.bool (simpleD L W H e (x, y))) ∧ Below w.heap.size w w' := by
  have B0 : Below w.heap.size w (w.alloc (.cells #[.int .i64 x, .int .i64 y] 38)) := Ext.more (Ext.refl _) _
  have T0 := Blk.made w 38 #[.int .i64 x, .int .i64 y]
  have t0 : (w.alloc (.cells #[.int .i64 x, .int .i64 y] 38)).cell? ⟨w.heap.size, 0, none⟩ = some (.int .i64 x) := cell_new w _ _ 0
  have t1 : (w.alloc (.cells #[.int .i64 x, .int .i64 y] 38)).cell? ⟨w.heap.size, 1, none⟩ = some (.int .i64 y) := cell_new w _ _ 1
  have O1 := Lib.hid (oneSide_any p g cap sp W H L x y true e _ (h.ext B0) hW hH hx hy)
  have O2 := Lib.hid (fun V (hb : Below w.heap.size w V) => oneSide_any p g cap sp W H L x y false (!e) V (h.ext hb) hW hH hx hy)
  clear h
  unfold simpleD
  generalize sideD L W H true e (x, y) = s1 at *
  generalize sideD L W H false (!e) (x, y) = s2 at *
  cases s1
  · go_enter Tryz.func33, Tryz.ntmps33
    go_wp2_with fail
    refine O1.out.mono ?_
    rintro e' w2 ⟨rfl, hb2⟩
    go_wp2_with fail
    go_ret
    exact ⟨rfl, Ext.then_ B0 hb2⟩
  · go_enter Tryz.func33, Tryz.ntmps33
    go_wp2_with fail
    refine O1.out.mono ?_
    rintro e' w2 ⟨rfl, hb2⟩
    have q0 := (hb2.cell (p := ⟨w.heap.size, 0, none⟩) T0.lt).trans t0
    have q1 := (hb2.cell (p := ⟨w.heap.size, 1, none⟩) T0.lt).trans t1
    have B2 := Ext.then_ B0 hb2
    have O3 := Lib.hid (O2.out w2 B2)
    clear hb2 O1 O2 T0
    go_wp2_with fail
    refine O3.out.mono ?_
    rintro e' w3 ⟨rfl, hb3⟩
    go_wp2_with fail
    go_ret
    exact ⟨rfl, Ext.then_ B2 hb3⟩
theorem wpList_appC {T e : TypeId} {z : Value} {size bytes : Nat} (E : ElemT T e z size bytes) {w : World} {ops : Array Oper} {rest : List Oper} {o : Oper} {a : Act} {Q : Exit → Act → World → Prop} (hgd : o.guard = none) (s x : Operand)
    (ho : o.op = .call { callee := .builtin .append, args := #[s, x], argTypes := #[T, T] })
    (base : Nat) (v : Value) (n : Nat) (xs : List Value) (hs : a.eval s = v) (hown : w.ownsRow base e size v n xs)
    (g m c : Nat) (news : List Value) (hx : a.eval x = .slice (some ⟨g, 0, none⟩) m c) (hl : news.length = m * size) (hnews : ∀ j u, news[j]? = some u → w.cell? ((⟨g, 0, none⟩ : Addr).add j) = some u) (h1 : ∀ u ∈ news, u.oneCell' = true)
    (hn : n + m ≤ 1000000000) (hbase : base ≤ w.heap.size) (hv : v ≠ .slice none 0 0)
    (h : ∀ v' w', w'.ownsRow base e size v' (n + m) (xs ++ news) → w.grownBy w' v.ownBlock → v' ≠ .slice none 0 0 → wpList Tryz.prog ops Q rest (a.put o.dst v') w') : wpList Tryz.prog ops Q (o :: rest) a w := by
  obtain ⟨i0, hi, hz0, hz1, hz2⟩ := info_parts E.info
  have hsm := E.small
  refine wpList_append_own w hgd s x T ho base e i0 z size bytes E.under hi hz0 hz1 hz2 E.cells E.pos v n xs hs hown ⟨g, 0, none⟩ m c news hx hl hnews h1 (by unfold maxLen; omega) ?_ hbase ?_
  · have : (n + m) * bytes ≤ 1000000001 * 64 := Nat.mul_le_mul (by omega) hsm
    omega
  · intro v' w' hown' hg hnil
    exact h v' w' hown' hg (fun e => hv (hnil.1 e).1)
theorem boolTC : ElemT 74 4 (.bool false) 1 1 := ⟨Tryz.underlying74, by kernel_rfl, rfl, by decide, by decide⟩
set_option maxRecDepth 100000 in
set_option maxHeartbeats 1000000 in
theorem cloneB_any (g c n : Nat) (L : List Bool) (w : World) (h : Blk w g 4 (boolC L)) (hl : L.length = n) (hn : n ≤ 1000000) :
    Calls Tryz.prog 68 #[.slice (some ⟨g, 0, none⟩) n c] w fun e w' => ∃ g' c' sp, e = .returned (.slice (some ⟨g', 0, none⟩) n c') ∧ Blk w' g' 4 (boolG L sp) ∧ w.heap.size ≤ g' ∧ Below w.heap.size w w' := by
  obtain ⟨wB, hwB⟩ : ∃ wB, w.alloc (.cells #[] 4) = wB := ⟨_, rfl⟩
  have B : Below w.heap.size w wB := by rw [← hwB]; exact Ext.more (Ext.refl _) _
  have O : Hid (wB.ownsRow w.heap.size 4 1 (.slice (some ⟨w.heap.size, 0, none⟩) 0 0) 0 []) := by rw [← hwB]; exact World.ownsRow_lit (e := 4) (size := 1) w #[] 0 (Nat.le_refl _) (by decide) rfl
  have C : Hid (∀ j u, (L.map Value.bool)[j]? = some u → wB.cell? ((⟨g, 0, none⟩ : Addr).add j) = some u) := fun j u hu => by
    have h2 := h.under B h.lt
    have : (⟨g, 0, none⟩ : Addr).add j = ⟨g, j, none⟩ := by unfold Addr.add; split <;> simp_all
    rw [this, h2.cell j]
    simpa [boolC] using hu
  have HL : Hid ((L.map Value.bool).length = n * 1) := by simp [Hid, hl]
  have H1 : Hid (∀ u ∈ L.map Value.bool, u.oneCell' = true) := fun u hu => by
    obtain ⟨b, _, rfl⟩ := List.mem_map.1 hu
    rfl
  have FIN : Hid (∀ v' (w' : World), w'.ownsRow w.heap.size 4 1 v' n (L.map Value.bool) → v' ≠ .slice none 0 0 → ∃ g' c' sp, v' = .slice (some ⟨g', 0, none⟩) n c' ∧ Blk w' g' 4 (boolG L sp) ∧ w.heap.size ≤ g') := fun v' w' ho hv => by
    rcases ho.2 with ⟨rfl, rfl⟩ | ⟨g', cap', cur, rfl, hb, hh, hnc, hcm, hcs, ht⟩
    · exact absurd rfl hv
    · refine ⟨g', cap', cur.toList.drop (n * 1), rfl, ?_, hb⟩
      have : boolG L (cur.toList.drop (n * 1)) = cur := by
        rw [boolG, ← ht, List.take_append_drop]
      rw [this]
      exact hh
  clear hl h
  generalize L.map Value.bool = xs at *
  have q22 : ∀ (w : World) (a : Option Addr) (n c n' c' : Nat), (binOp .eql 74 (.slice a n c) (.slice none n' c')).run Tryz.prog w = .ok (.bool a.isNone) w := fun w a n c n' c' => Lib.run_eql_slice_nil w _ _ a n c n' c' Tryz.underlying74
  go_enter Tryz.func68, Tryz.ntmps68
  go_wp2_with (at_builtin; (try simp only [hwB]); refine wpList_appC boolTC (by rfl) _ _ (by rfl) w.heap.size (.slice (some ⟨w.heap.size, 0, none⟩) 0 0) 0 [] (by rfl) O.out g n c xs (by rfl) HL.out C.out H1.out (by omega) B.size (by intro h; cases h) ?_; intro v' w' hown hg hnv)
  have B2 : Below w.heap.size w w' := B.grown hg B.size (fun z hz => by cases hz; exact Nat.le_refl _)
  rw [List.nil_append, Nat.zero_add] at hown
  obtain ⟨g', c', sp, rfl, hG, hgg⟩ := FIN.out v' w' hown hnv
  have HO := Lib.hid (And.intro hG (And.intro hgg B2))
  clear hown hg O B hG hgg B2
  go_ret
  exact ⟨g', c', sp, rfl, HO.out⟩
set_option maxRecDepth 100000 in
set_option maxHeartbeats 1000000 in
theorem clone_any (p g W H : Nat) (L : List Bool) (w : World) (h : Img w p g W H L) (hW : W ≤ 100) (hH : H ≤ 100) :
    Calls Tryz.prog 52 #[.pointer (some ⟨p, 0, none⟩)] w fun e w' => ∃ p' g' cap sp, e = .returned (.pointer (some ⟨p', 0, none⟩)) ∧ ImgG w' p' g' cap sp W H L ∧ w.heap.size ≤ p' ∧ w.heap.size ≤ g' ∧ Below w.heap.size w w' := by
  have c0 := h.hdr.cell 0
  have c1 := h.hdr.cell 1
  have c2 := h.hdr.cell 2
  simp at c0 c1 c2
  have hp := h.hdr.lt
  have hWH : W * H ≤ 100 * 100 := Nat.mul_le_mul hW hH
  have CL := Lib.hid (fun V (hb : Below w.heap.size w V) => cloneB_any g (W * H) (W * H) L V (h.bits.under hb h.bits.lt) h.len (by omega))
  have HLEN := Lib.hid h.len
  clear h
  have SS := Lib.hid (fun V (hb : Below w.heap.size w V) => (show V.cell? ⟨p, 0, none⟩ = some (.int .i64 W) ∧ V.cell? ⟨p, 1, none⟩ = some (.int .i64 H) ∧ V.cell? ⟨p, 2, none⟩ = some (.slice (some ⟨g, 0, none⟩) (W * H) (W * H)) from
    ⟨(hb.cell (p := ⟨p, 0, none⟩) hp).trans c0, (hb.cell (p := ⟨p, 1, none⟩) hp).trans c1, (hb.cell (p := ⟨p, 2, none⟩) hp).trans c2⟩))
  go_enter Tryz.func52, Tryz.ntmps52
  go_wp2_with fail
  go_region_held3 (fun V => V.cell? ⟨p, 0, none⟩ = some (.int .i64 W) ∧ V.cell? ⟨p, 1, none⟩ = some (.int .i64 H) ∧ V.cell? ⟨p, 2, none⟩ = some (.slice (some ⟨g, 0, none⟩) (W * H) (W * H)))
    (first | exact SS.out _ (Ext.draw (Ext.refl _)) | exact SS.out _ h27 | exact SS.out _ (Ext.more h27 _) | go_keep)
    (first | (go_at_call 68; refine (CL.out w.drew (Ext.draw (Ext.refl _))).mono ?_; rintro e w7 ⟨g', c', sp, rfl, hG, hgg, hb'⟩; have h27 : Below w.heap.size w w7 := Ext.undraw hb'))
  have HO : Hid (ImgG (w7.alloc (.cells #[.int .i64 W, .int .i64 H, .slice (some ⟨g', 0, none⟩) (W * H) c'] 79)) w7.heap.size g' c' sp W H L ∧ w.heap.size ≤ w7.heap.size ∧ w.heap.size ≤ g' ∧ Below w.heap.size w (w7.alloc (.cells #[.int .i64 W, .int .i64 H, .slice (some ⟨g', 0, none⟩) (W * H) c'] 79))) :=
    ⟨⟨Blk.made w7 _ _, hG.more _, HLEN.out⟩, h27.size, hgg, Ext.more h27 _⟩
  clear hG hgg hb' h27 SS CL
  go_wp2_with fail
  go_ret
  exact ⟨w7.heap.size, g', c', sp, rfl, HO.out⟩
theorem ImgG.same {w : World} {p g cap W H : Nat} {sp : List Value} {L M : List Bool} (h : ImgG w p g cap sp W H L) (k : ImgG w p g cap sp W H M) : L = M := by
  have e : boolG L sp = boolG M sp := by
    have h1 := h.bits
    have h2 := k.bits
    rw [Blk] at h1 h2
    rw [h1] at h2
    injection h2 with h2
    injection h2 with h2
  refine List.ext_getElem (by rw [h.len, k.len]) fun i h1 h2 => ?_
  have e1 := boolC_getG L sp i h1
  have e2 := boolC_getG M sp i h2
  rw [e, e2] at e1
  injection e1 with e1
  injection e1 with e1
  exact e1.symm
open Classical in
/-- How many pixels an image has that are black, as memory tells, and whether a round has changed any. -/
noncomputable def measT (p g cap : Nat) (sp : List Value) (W H : Nat) (s : Value) (wr : World) : Nat :=
  2 * (if h : ∃ L, ImgG wr p g cap sp W H L then blacks h.choose else 0) + (match s with
    | .pointer (some a) => match wr.cell? a with
      | some (.bool true) => 1
      | _ => 0
    | _ => 0)
theorem measT_of {p g cap W H : Nat} {sp : List Value} {wr : World} {L : List Bool} (h : ImgG wr p g cap sp W H L) {m : Nat} {b : Bool} (hm : wr.cell? ⟨m, 0, none⟩ = some (.bool b)) : measT p g cap sp W H (.pointer (some ⟨m, 0, none⟩)) wr = 2 * blacks L + if b then 1 else 0 := by
  have hx : ∃ L, ImgG wr p g cap sp W H L := ⟨L, h⟩
  rw [measT, dif_pos hx, hx.choose_spec.same h]
  simp only [hm]
  cases b <;> rfl
/-- What is kept while pixels are taken away. -/
structure ThI (w : World) (p g cap : Nat) (sp : List Value) (W H : Nat) (e : Bool) (least : Int) (m4 m5 m7 m8 : Nat) (L0 L : List Bool) (wr : World) : Prop where
  img : ImgG wr p g cap sp W H L
  b4 : Blk wr m4 4 #[.bool e]
  b5 : Blk wr m5 2 #[.int .i64 least]
  b7 : Blk wr m7 47 #[.pointer (some ⟨p, 0, none⟩)]
  b8 : ∃ ag, Blk wr m8 4 #[.bool ag] ∧ (ag = false → L = L0) ∧ (ag = true → blacks L + 1 ≤ blacks L0)
  ext : Below w.heap.size w wr
  hg : w.heap.size ≤ g
  h8 : w.heap.size ≤ m8
  ne : m4 ≠ g ∧ m8 ≠ g ∧ m4 ≠ m8
section
variable {w wr w' : World} {p g cap W H : Nat} {sp : List Value} {e : Bool} {least : Int} {m4 m5 m7 m8 : Nat} {L0 L : List Bool}
theorem ThI.step (h : ThI w p g cap sp W H e least m4 m5 m7 m8 L0 L wr) (hb : Below wr.heap.size wr w') : ThI w p g cap sp W H e least m4 m5 m7 m8 L0 L w' := by
  obtain ⟨ag, h1, h2, h3⟩ := h.b8
  exact ⟨h.img.ext hb, h.b4.under hb h.b4.lt, h.b5.under hb h.b5.lt, h.b7.under hb h.b7.lt, ⟨ag, h1.under hb h1.lt, h2, h3⟩, Ext.then_ h.ext hb, h.hg, h.h8, h.ne⟩
theorem ThI.take (h : ThI w p g cap sp W H e least m4 m5 m7 m8 L0 L wr) {i : Nat} (hi : i < W * H) (hL : L.getD i false = true) (hle : blacks L ≤ blacks L0) :
    ThI w p g cap sp W H e least m4 m5 m7 m8 L0 (L.set i false) ((wr.setCell ⟨g, i, none⟩ (.bool false)).setCell ⟨m8, 0, none⟩ (.bool true)).drew := by
  obtain ⟨ag, h1, _, _⟩ := h.b8
  obtain ⟨n1, n2, n3⟩ := h.ne
  have i1 := h.img.put i hi false
  have c := blacks_set L i hL
  have a4 := (h.b4.apart (p := ⟨g, i, none⟩) n1 (.bool false)).apart (p := ⟨m8, 0, none⟩) n3 (.bool true)
  have a5 := (h.b5.apart (p := ⟨g, i, none⟩) (h.b5.ne h.img.bits (by decide)) (.bool false)).apart (p := ⟨m8, 0, none⟩) ((h.b5.apart (p := ⟨g, i, none⟩) (h.b5.ne h.img.bits (by decide)) (.bool false)).ne (h1.apart (p := ⟨g, i, none⟩) n2 (.bool false)) (by decide)) (.bool true)
  have a7 := (h.b7.apart (p := ⟨g, i, none⟩) (h.b7.ne h.img.bits (by decide)) (.bool false)).apart (p := ⟨m8, 0, none⟩) ((h.b7.apart (p := ⟨g, i, none⟩) (h.b7.ne h.img.bits (by decide)) (.bool false)).ne (h1.apart (p := ⟨g, i, none⟩) n2 (.bool false)) (by decide)) (.bool true)
  have a8 := (h1.apart (p := ⟨g, i, none⟩) n2 (.bool false)).store 0 (.bool true)
  refine ⟨⟨i1.hdr.apart (p := ⟨m8, 0, none⟩) (i1.hdr.ne (h1.apart (p := ⟨g, i, none⟩) n2 (.bool false)) (by decide)) _, i1.bits.apart (p := ⟨m8, 0, none⟩) (fun e => n2 e.symm) _, i1.len⟩, a4, a5, a7, ⟨true, (by show Blk ((wr.setCell ⟨g, i, none⟩ (.bool false)).setCell ⟨m8, 0, none⟩ (.bool true)) m8 4 #[.bool true]; simpa using a8), (fun h => by cases h), fun _ => by omega⟩, ?_, h.hg, h.h8, h.ne⟩
  exact ((h.ext.setCell (p := ⟨g, i, none⟩) h.hg _).setCell (p := ⟨m8, 0, none⟩) h.h8 _).drew
end
theorem enters_thinned1 : Enters 54 := enters_of Tryz.func54 (by kernel_rfl) (by kernel_rfl)
set_option maxRecDepth 100000 in
set_option maxHeartbeats 4000000 in
theorem thinned1_any {w wr : World} {p g cap W H : Nat} {sp : List Value} {e : Bool} {least : Int} {m4 m5 m7 m8 : Nat} {L0 L : List Bool} (h : ThI w p g cap sp W H e least m4 m5 m7 m8 L0 L wr) (hle : blacks L ≤ blacks L0) (x y : Nat) (hx : x < W) (hy : y < H) (hW : W ≤ 16) (hH : H ≤ 16) :
    Calls Tryz.prog 54 (#[.int .i64 x, .int .i64 y] ++ #[.pointer (some ⟨m7, 0, none⟩), .pointer (some ⟨m5, 0, none⟩), .pointer (some ⟨m4, 0, none⟩), .pointer (some ⟨m8, 0, none⟩)]) wr fun e' w' => e' = .returned (.tuple #[]) ∧ ThI w p g cap sp W H e least m4 m5 m7 m8 L0 (remS e least W H L (y * W + x)) w' := by
  have hi : y * W + x < W * H := by
    have : (y + 1) * W ≤ H * W := Nat.mul_le_mul_right _ hy
    rw [Nat.add_mul, Nat.mul_comm H] at this
    omega
  have RM : Hid (remS e least W H L (y * W + x) = if goes e least W H L ((x : Int), (y : Int)) then L.set (y * W + x) false else L) := by
    rw [Hid, remS, modU hx, divU hx]
  obtain ⟨wq, hwq⟩ : ∃ wq, wr.alloc (.cells #[.int .i64 x, .int .i64 y] 38) = wq := ⟨_, rfl⟩
  have EQ : Below wr.heap.size wr wq := by rw [← hwq]; exact Ext.more (Ext.refl wr) _
  have TQ : Blk wq wr.heap.size 38 #[.int .i64 x, .int .i64 y] := by rw [← hwq]; exact Blk.made wr _ _
  have hq := h.step EQ
  have GK := Lib.hid (fun V (hb : Below wq.heap.size wq V) => ((get_anyG p g cap sp W H L (x : Int) (y : Int) V (hq.img.ext hb) (by omega) (by omega)).mono fun e' w' ⟨h1, k, h2⟩ => (show e' = Ending.returned (.bool (bit L W H (x : Int) (y : Int))) ∧ Below V.heap.size V w' from ⟨h1, by rw [h2]; exact Ext.drawN (Ext.refl _) _⟩)))
  have CK := Lib.hid (fun V (hb : Below wq.heap.size wq V) => company_anyG p g cap sp W H L (x : Int) (y : Int) V (hq.img.ext hb) (by omega) (by omega) (by omega) (by omega))
  have SK := Lib.hid (fun V (hb : Below wq.heap.size wq V) => simple_any p g cap sp W H L (x : Int) (y : Int) e V (hq.img.ext hb) (by omega) (by omega) (by omega) (by omega))
  have ST := Lib.hid (fun V (hb : Below wq.heap.size wq V) => set_anyG p g cap sp W H L x y false V (hq.img.ext hb) (by omega) (by omega) hx hy)
  have hbit : bit L W H (x : Int) (y : Int) = L.getD (y * W + x) false := bit_in hx hy
  have k7 := hq.b7.cell 0
  have k5 := hq.b5.cell 0
  have k4 := hq.b4.cell 0
  have q0 := TQ.cell 0
  have q1 := TQ.cell 1
  simp at k7 k5 k4 q0 q1
  have l7 := hq.b7.lt
  have l5 := hq.b5.lt
  have l4 := hq.b4.lt
  have lq := TQ.lt
  have HWQ := Lib.hid hwq
  have KEEP := Lib.hid (fun V (hb : Below wq.heap.size wq V) => hq.step hb)
  have HHI := Lib.hid hi
  have HLE := Lib.hid hle
  have HBT := Lib.hid hbit
  have CC : Hid (goes e least W H L ((x : Int), (y : Int)) = (bit L W H (x : Int) (y : Int) && (decide (least ≤ ((coN L W H ((x : Int), (y : Int)) : Nat) : Int)) && simpleD L W H e ((x : Int), (y : Int))))) := rfl
  clear h hq EQ TQ hwq hi hle hbit
  generalize bit L W H (x : Int) (y : Int) = bq at *
  generalize coN L W H ((x : Int), (y : Int)) = co at *
  generalize simpleD L W H e ((x : Int), (y : Int)) = sd at *
  go_enter Tryz.func54, Tryz.ntmps54
  go_upto_region 1 with fail
  rw [HWQ.out]
  cases bq
  · have RE : Hid (remS e least W H L (y * W + x) = L) := by rw [Hid, RM.out, CC.out]; rfl
    refine wp_region_held_quiet (fun U => Below wq.heap.size wq U) (by kernel_rfl) (by kernel_rfl) (Ext.refl _).drew ?_
    have ne : Nonempty (HeldW (fun U => Below wq.heap.size wq U)) := ⟨⟨wq, Ext.refl _⟩⟩
    have v7 : ∀ i : HeldW (fun U => Below wq.heap.size wq U), i.w.cell? ⟨m7, 0, none⟩ = _ := fun i => (i.h.cell (p := ⟨m7, 0, none⟩) l7).trans k7
    have v5 : ∀ i : HeldW (fun U => Below wq.heap.size wq U), i.w.cell? ⟨m5, 0, none⟩ = _ := fun i => (i.h.cell (p := ⟨m5, 0, none⟩) l5).trans k5
    have v4 : ∀ i : HeldW (fun U => Below wq.heap.size wq U), i.w.cell? ⟨m4, 0, none⟩ = _ := fun i => (i.h.cell (p := ⟨m4, 0, none⟩) l4).trans k4
    have u0 : ∀ i : HeldW (fun U => Below wq.heap.size wq U), i.w.cell? ⟨wr.heap.size, 0, none⟩ = _ := fun i => (i.h.cell (p := ⟨wr.heap.size, 0, none⟩) lq).trans q0
    have u1 : ∀ i : HeldW (fun U => Below wq.heap.size wq U), i.w.cell? ⟨wr.heap.size, 1, none⟩ = _ := fun i => (i.h.cell (p := ⟨wr.heap.size, 1, none⟩) lq).trans q1
    repeat (go_big_quiet_step (first
      | (go_at_call 32; exact Calls.above_of _ (GK.out _ (‹HeldW (fun U => Below wq.heap.size wq U)›).h))
      | (go_at_call 55; exact Calls.above_of _ (CK.out _ (‹HeldW (fun U => Below wq.heap.size wq U)›).h))
      | (go_at_call 33; exact Calls.above_of _ (SK.out _ (‹HeldW (fun U => Below wq.heap.size wq U)›).h))))
    refine wpQuiet_nil ?_
    intro _ hw'
    obtain ⟨⟨wz, hb2⟩, rfl⟩ := hw'
    have HK := Lib.hid (KEEP.out _ hb2)
    clear RM CC ne v7 v5 v4 u0 u1 GK CK SK ST KEEP hb2
    go_wp2_with fail
    go_end0
    exact ⟨rfl, by rw [RE.out]; exact HK.out⟩
  cases hd : decide (least ≤ ((co : Nat) : Int))
  · have RE : Hid (remS e least W H L (y * W + x) = L) := by rw [Hid, RM.out, CC.out, hd]; rfl
    refine wp_region_held_quiet (fun U => Below wq.heap.size wq U) (by kernel_rfl) (by kernel_rfl) (Ext.refl _).drew ?_
    have ne : Nonempty (HeldW (fun U => Below wq.heap.size wq U)) := ⟨⟨wq, Ext.refl _⟩⟩
    have v7 : ∀ i : HeldW (fun U => Below wq.heap.size wq U), i.w.cell? ⟨m7, 0, none⟩ = _ := fun i => (i.h.cell (p := ⟨m7, 0, none⟩) l7).trans k7
    have v5 : ∀ i : HeldW (fun U => Below wq.heap.size wq U), i.w.cell? ⟨m5, 0, none⟩ = _ := fun i => (i.h.cell (p := ⟨m5, 0, none⟩) l5).trans k5
    have v4 : ∀ i : HeldW (fun U => Below wq.heap.size wq U), i.w.cell? ⟨m4, 0, none⟩ = _ := fun i => (i.h.cell (p := ⟨m4, 0, none⟩) l4).trans k4
    have u0 : ∀ i : HeldW (fun U => Below wq.heap.size wq U), i.w.cell? ⟨wr.heap.size, 0, none⟩ = _ := fun i => (i.h.cell (p := ⟨wr.heap.size, 0, none⟩) lq).trans q0
    have u1 : ∀ i : HeldW (fun U => Below wq.heap.size wq U), i.w.cell? ⟨wr.heap.size, 1, none⟩ = _ := fun i => (i.h.cell (p := ⟨wr.heap.size, 1, none⟩) lq).trans q1
    repeat (go_big_quiet_step (first
      | (go_at_call 32; exact Calls.above_of _ (GK.out _ (‹HeldW (fun U => Below wq.heap.size wq U)›).h))
      | (go_at_call 55; exact Calls.above_of _ (CK.out _ (‹HeldW (fun U => Below wq.heap.size wq U)›).h))
      | (go_at_call 33; exact Calls.above_of _ (SK.out _ (‹HeldW (fun U => Below wq.heap.size wq U)›).h))))
    refine wpQuiet_nil ?_
    intro _ hw'
    obtain ⟨⟨wz, hb2⟩, rfl⟩ := hw'
    have HK := Lib.hid (KEEP.out _ hb2)
    clear RM CC ne v7 v5 v4 u0 u1 GK CK SK ST KEEP hb2
    go_wp2_with fail
    go_end0
    exact ⟨rfl, by rw [RE.out]; exact HK.out⟩
  cases sd
  · have RE : Hid (remS e least W H L (y * W + x) = L) := by rw [Hid, RM.out, CC.out, hd]; rfl
    refine wp_region_held_quiet (fun U => Below wq.heap.size wq U) (by kernel_rfl) (by kernel_rfl) (Ext.refl _).drew ?_
    have ne : Nonempty (HeldW (fun U => Below wq.heap.size wq U)) := ⟨⟨wq, Ext.refl _⟩⟩
    have v7 : ∀ i : HeldW (fun U => Below wq.heap.size wq U), i.w.cell? ⟨m7, 0, none⟩ = _ := fun i => (i.h.cell (p := ⟨m7, 0, none⟩) l7).trans k7
    have v5 : ∀ i : HeldW (fun U => Below wq.heap.size wq U), i.w.cell? ⟨m5, 0, none⟩ = _ := fun i => (i.h.cell (p := ⟨m5, 0, none⟩) l5).trans k5
    have v4 : ∀ i : HeldW (fun U => Below wq.heap.size wq U), i.w.cell? ⟨m4, 0, none⟩ = _ := fun i => (i.h.cell (p := ⟨m4, 0, none⟩) l4).trans k4
    have u0 : ∀ i : HeldW (fun U => Below wq.heap.size wq U), i.w.cell? ⟨wr.heap.size, 0, none⟩ = _ := fun i => (i.h.cell (p := ⟨wr.heap.size, 0, none⟩) lq).trans q0
    have u1 : ∀ i : HeldW (fun U => Below wq.heap.size wq U), i.w.cell? ⟨wr.heap.size, 1, none⟩ = _ := fun i => (i.h.cell (p := ⟨wr.heap.size, 1, none⟩) lq).trans q1
    repeat (go_big_quiet_step (first
      | (go_at_call 32; exact Calls.above_of _ (GK.out _ (‹HeldW (fun U => Below wq.heap.size wq U)›).h))
      | (go_at_call 55; exact Calls.above_of _ (CK.out _ (‹HeldW (fun U => Below wq.heap.size wq U)›).h))
      | (go_at_call 33; exact Calls.above_of _ (SK.out _ (‹HeldW (fun U => Below wq.heap.size wq U)›).h))))
    refine wpQuiet_nil ?_
    intro _ hw'
    obtain ⟨⟨wz, hb2⟩, rfl⟩ := hw'
    have HK := Lib.hid (KEEP.out _ hb2)
    clear RM CC ne v7 v5 v4 u0 u1 GK CK SK ST KEEP hb2
    go_wp2_with fail
    go_end0
    exact ⟨rfl, by rw [RE.out]; exact HK.out⟩
  have RE : Hid (remS e least W H L (y * W + x) = L.set (y * W + x) false) := by rw [Hid, RM.out, CC.out, hd]; rfl
  refine wp_region_held_quiet (fun U => Below wq.heap.size wq U) (by kernel_rfl) (by kernel_rfl) (Ext.refl _).drew ?_
  have ne : Nonempty (HeldW (fun U => Below wq.heap.size wq U)) := ⟨⟨wq, Ext.refl _⟩⟩
  have v7 : ∀ i : HeldW (fun U => Below wq.heap.size wq U), i.w.cell? ⟨m7, 0, none⟩ = _ := fun i => (i.h.cell (p := ⟨m7, 0, none⟩) l7).trans k7
  have v5 : ∀ i : HeldW (fun U => Below wq.heap.size wq U), i.w.cell? ⟨m5, 0, none⟩ = _ := fun i => (i.h.cell (p := ⟨m5, 0, none⟩) l5).trans k5
  have v4 : ∀ i : HeldW (fun U => Below wq.heap.size wq U), i.w.cell? ⟨m4, 0, none⟩ = _ := fun i => (i.h.cell (p := ⟨m4, 0, none⟩) l4).trans k4
  have u0 : ∀ i : HeldW (fun U => Below wq.heap.size wq U), i.w.cell? ⟨wr.heap.size, 0, none⟩ = _ := fun i => (i.h.cell (p := ⟨wr.heap.size, 0, none⟩) lq).trans q0
  have u1 : ∀ i : HeldW (fun U => Below wq.heap.size wq U), i.w.cell? ⟨wr.heap.size, 1, none⟩ = _ := fun i => (i.h.cell (p := ⟨wr.heap.size, 1, none⟩) lq).trans q1
  repeat (go_big_quiet_step (first
    | (go_at_call 32; exact Calls.above_of _ (GK.out _ (‹HeldW (fun U => Below wq.heap.size wq U)›).h))
    | (go_at_call 55; exact Calls.above_of _ (CK.out _ (‹HeldW (fun U => Below wq.heap.size wq U)›).h))
    | (go_at_call 33; exact Calls.above_of _ (SK.out _ (‹HeldW (fun U => Below wq.heap.size wq U)›).h))))
  refine wpQuiet_nil ?_
  intro _ hw'
  obtain ⟨⟨wz, hb2⟩, rfl⟩ := hw'
  have HK := Lib.hid (KEEP.out _ hb2)
  have p7 := v7 ⟨_, hb2⟩
  clear ne v7 v5 v4 u0 u1 GK CK SK KEEP RM CC
  obtain ⟨ag, h8, _, _⟩ := HK.out.b8
  have n8 := HK.out.ne.2.1
  have hD := h8.apart (p := ⟨g, y * W + x, none⟩) n8 (.bool false)
  have c8 := hD.cell 0
  have f8 := hD.free 0
  simp at c8
  clear h8 n8 hD
  go_wp2_with ((go_at_call 36; refine (ST.out _ hb2).mono ?_; rintro e' w3 ⟨rfl, rfl⟩))
  go_end0
  refine ⟨rfl, ?_⟩
  rw [RE.out]
  exact HK.out.take HHI.out HBT.out.symm HLE.out
theorem thin_at {e : Bool} {least : Int} {W H : Nat} {L : List Bool} (hL : L.length = W * H) {n : Nat} (h : roundL e least W H (rounds e least W H L n) = rounds e least W H L n) : rounds e least W H L n = thinL e least W H L := by
  have h1 := rounds_fix h (n + (W * H + 1)) (by omega)
  have h2 := rounds_fix (n := W * H + 1) (thin_fix (e := e) (least := least) hL) (n + (W * H + 1)) (by omega)
  rw [← h1, h2]
  rfl
/-- What is kept from round to round. -/
structure ThR (w : World) (p g cap : Nat) (sp : List Value) (W H : Nat) (e : Bool) (least : Int) (m4 m5 m7 m8 : Nat) (L : List Bool) (n : Nat) (ag : Bool) (wr : World) : Prop where
  img : ImgG wr p g cap sp W H (rounds e least W H L n)
  b4 : Blk wr m4 4 #[.bool e]
  b5 : Blk wr m5 2 #[.int .i64 least]
  b7 : Blk wr m7 47 #[.pointer (some ⟨p, 0, none⟩)]
  b8 : Blk wr m8 4 #[.bool ag]
  fin : ag = false → roundL e least W H (rounds e least W H L n) = rounds e least W H L n
  ext : Below w.heap.size w wr
  hg : w.heap.size ≤ g
  h8 : w.heap.size ≤ m8
  ne : m4 ≠ g ∧ m8 ≠ g ∧ m4 ≠ m8
theorem ThR.start {w wr : World} {p g cap W H : Nat} {sp : List Value} {e : Bool} {least : Int} {m4 m5 m7 m8 : Nat} {L : List Bool} {n : Nat} {ag : Bool} (h : ThR w p g cap sp W H e least m4 m5 m7 m8 L n ag wr) :
    ThI w p g cap sp W H e least m4 m5 m7 m8 (rounds e least W H L n) (roundTo e least W H (rounds e least W H L n) 0) (wr.setCell ⟨m8, 0, none⟩ (.bool false)) := by
  obtain ⟨n1, n2, n3⟩ := h.ne
  have a8 := h.b8.store 0 (.bool false)
  refine ⟨⟨h.img.hdr.apart (p := ⟨m8, 0, none⟩) (h.img.hdr.ne h.b8 (by decide)) _, h.img.bits.apart (p := ⟨m8, 0, none⟩) (fun e => n2 e.symm) _, h.img.len⟩, h.b4.apart (p := ⟨m8, 0, none⟩) n3 _, h.b5.apart (p := ⟨m8, 0, none⟩) (h.b5.ne h.b8 (by decide)) _, h.b7.apart (p := ⟨m8, 0, none⟩) (h.b7.ne h.b8 (by decide)) _, ⟨false, by simpa using a8, fun _ => rfl, fun h => by cases h⟩, h.ext.setCell (p := ⟨m8, 0, none⟩) h.h8 _, h.hg, h.h8, h.ne⟩
theorem ThI.next {w wr : World} {p g cap W H : Nat} {sp : List Value} {e : Bool} {least : Int} {m4 m5 m7 m8 : Nat} {L : List Bool} {n : Nat} (h : ThI w p g cap sp W H e least m4 m5 m7 m8 (rounds e least W H L n) (roundTo e least W H (rounds e least W H L n) (W * H)) wr) {ag : Bool} (h8 : Blk wr m8 4 #[.bool ag]) :
    ThR w p g cap sp W H e least m4 m5 m7 wr.heap.size L (n + 1) ag (wr.alloc (.cells #[.bool ag] 4)) ∧ 2 * blacks (rounds e least W H L (n + 1)) + (if ag then 1 else 0) < 2 * blacks (rounds e least W H L n) + 1 := by
  obtain ⟨b, k8, f1, f2⟩ := h.b8
  have eb : b = ag := by
    have e1 := k8.cell 0
    have e2 := h8.cell 0
    rw [e1] at e2
    simpa using e2
  subst eb
  obtain ⟨n1, n2, n3⟩ := h.ne
  have lg := h.img.bits.lt
  have l4 := h.b4.lt
  refine ⟨⟨⟨h.img.hdr.more _, h.img.bits.more _, h.img.len⟩, h.b4.more _, h.b5.more _, h.b7.more _, Blk.made wr _ _, fun hf => ?_, Ext.more h.ext _, h.hg, h.ext.size, n1, by omega, by omega⟩, ?_⟩
  · have := f1 hf
    show roundL e least W H (roundTo e least W H (rounds e least W H L n) (W * H)) = roundTo e least W H (rounds e least W H L n) (W * H)
    rw [this]
    exact this
  · show 2 * blacks (roundTo e least W H (rounds e least W H L n) (W * H)) + _ < _
    cases b
    · rw [f1 rfl]; simp
    · have := f2 rfl
      simp; omega
set_option maxRecDepth 100000 in
set_option maxHeartbeats 4000000 in
theorem thinned_any (p g W H : Nat) (L : List Bool) (e : Bool) (least : Int) (w : World) (h : Img w p g W H L) (hW : W ≤ 16) (hH : H ≤ 16) :
    Calls Tryz.prog 27 #[.pointer (some ⟨p, 0, none⟩), .bool e, .int .i64 least] w fun e' w' => ∃ p' g' cap sp, e' = .returned (.pointer (some ⟨p', 0, none⟩)) ∧ ImgG w' p' g' cap sp W H (thinL e least W H L) ∧ w.heap.size ≤ p' ∧ w.heap.size ≤ g' ∧ Below w.heap.size w w' := by
  have hmf : ∀ (fn : Fn) (first cap : Array Value) (w : World), (Instr.makeFunc fn first cap).run Tryz.prog w = .ok (.func fn first cap) w := fun _ _ _ _ => rfl
  obtain ⟨wq, hwq⟩ : ∃ wq, (w.alloc (.cells #[.bool e] 4)).alloc (.cells #[.int .i64 least] 2) = wq := ⟨_, rfl⟩
  have EQ : Below w.heap.size w wq := by rw [← hwq]; exact Ext.more (Ext.more (Ext.refl w) _) _
  have Q4 : Blk wq w.heap.size 4 #[.bool e] := by rw [← hwq]; exact (Blk.made w _ _).more _
  have Q5 : Blk wq (w.heap.size + 1) 2 #[.int .i64 least] := by
    rw [← hwq]
    have := Blk.made (w.alloc (.cells #[.bool e] 4)) 2 #[.int .i64 least]
    simpa using this
  have CL := Lib.hid (clone_any p g W H L wq (h.ext EQ) (by omega) (by omega))
  have HL := Lib.hid h.len
  have HWQ := Lib.hid hwq
  have l4 := Q4.lt
  have l5 := Q5.lt
  have HEQ := Lib.hid EQ
  clear h hwq
  go_enter Tryz.func27, Tryz.ntmps27
  go_upto_region 1 with fail
  rw [HWQ.out]
  go_wp2_with ((go_at_call 52; refine CL.out.mono ?_; rintro e' w1 ⟨p', g', cap, sp, rfl, hI, hp', hg', hb1⟩))
  have T1 := Blk.made w1 47 #[.pointer (some ⟨p', 0, none⟩)]
  have T2 := Blk.made (w1.alloc (.cells #[.pointer (some ⟨p', 0, none⟩)] 47)) 4 #[.bool true]
  have B2 : Below wq.heap.size wq ((w1.alloc (.cells #[.pointer (some ⟨p', 0, none⟩)] 47)).alloc (.cells #[.bool true] 4)) := Ext.more (Ext.more hb1 _) _
  have BI : Below w1.heap.size w1 ((w1.alloc (.cells #[.pointer (some ⟨p', 0, none⟩)] 47)).alloc (.cells #[.bool true] 4)) := Ext.more (Ext.more (Ext.refl w1) _) _
  have lg := hI.bits.lt
  have lp := hI.hdr.lt
  have zq := hb1.size
  have z0 := HEQ.out.size
  have R0 : ThR w p' g' cap sp W H e least w.heap.size (w.heap.size + 1) w1.heap.size (w1.heap.size + 1) L 0 true ((w1.alloc (.cells #[.pointer (some ⟨p', 0, none⟩)] 47)).alloc (.cells #[.bool true] 4)) :=
    ⟨hI.ext BI, Q4.under B2 l4, Q5.under B2 l5, T1.more _, by simpa using T2, (fun h => by cases h), Ext.then_ HEQ.out B2, by omega, by omega, by omega, by omega, by omega⟩
  have hpp : w.heap.size ≤ p' := by omega
  clear T1 T2 B2 BI lg lp zq z0 hb1 hI hp' hg' Q4 Q5 l4 l5 HEQ CL HWQ EQ
  generalize ((w1.alloc (.cells #[.pointer (some ⟨p', 0, none⟩)] 47)).alloc (.cells #[.bool true] 4)) = w2 at *
  generalize w1.heap.size = m7 at *
  generalize w.heap.size + 1 = m5 at *
  obtain ⟨m4, hm4⟩ : ∃ m4, m4 = w.heap.size := ⟨_, rfl⟩
  rw [← hm4] at R0 ⊢
  have HM4 := Lib.hid hm4
  clear hm4
  go_loopw [8] (fun s wr => ∃ (m8 n : Nat) (ag : Bool), s = .pointer (some ⟨m8, 0, none⟩) ∧ ThR w p' g' cap sp W H e least m4 m5 m7 m8 L n ag wr) (fun s wr => measT p' g' cap sp W H s wr)
  case atStart => exact ⟨_, 0, true, rfl, R0⟩
  case round =>
    obtain ⟨m8, n, ag, rfl, R⟩ := hrel
    clear R0
    have k8 := R.b8.cell 0
    have f8 := R.b8.free 0
    have k7 := R.b7.cell 0
    simp at k8 k7
    have HR := Lib.hid R
    cases ag
    · have HI2 : Hid (ImgG wr p' g' cap sp W H (thinL e least W H L) ∧ w.heap.size ≤ p' ∧ w.heap.size ≤ g' ∧ Below w.heap.size w wr) :=
        ⟨by rw [← thin_at HL.out (R.fin rfl)]; exact R.img, hpp, R.hg, R.ext⟩
      clear R
      go_wp2_with fail
      go_ret
      exact ⟨p', g', cap, sp, rfl, HI2.out⟩
    · have hm := measT_of R.img k8
      have ne78 : m7 ≠ m8 := R.b7.ne R.b8 (by decide)
      have k7' : (wr.setCell ⟨m8, 0, none⟩ (.bool false)).cell? ⟨m7, 0, none⟩ = some (.pointer (some ⟨p', 0, none⟩)) := by
        have := (R.b7.apart (p := ⟨m8, 0, none⟩) ne78 (.bool false)).cell 0
        simpa using this
      have hlen := R.img.len
      have EA := Lib.hid (each_any p' W H (.slice (some ⟨g', 0, none⟩) (W * H) cap) 54 #[.pointer (some ⟨m7, 0, none⟩), .pointer (some ⟨m5, 0, none⟩), .pointer (some ⟨m4, 0, none⟩), .pointer (some ⟨m8, 0, none⟩)]
        (fun k => ThI w p' g' cap sp W H e least m4 m5 m7 m8 (rounds e least W H L n) (roundTo e least W H (rounds e least W H L n) k)) (wr.setCell ⟨m8, 0, none⟩ (.bool false)) (by omega) (by omega) (fun _ _ h => h.img.hdr)
        (fun x y hx hy V h => by
          have hb : y * W + x ≤ W * H := by
            have : (y + 1) * W ≤ H * W := Nat.mul_le_mul_right _ hy
            rw [Nat.add_mul, Nat.mul_comm H] at this
            omega
          have hle : blacks (roundTo e least W H (rounds e least W H L n) (y * W + x)) ≤ blacks (rounds e least W H L n) := by
            rcases roundTo_cnt (e := e) (least := least) hlen (y * W + x) hb with h1 | h1
            · rw [h1]; exact Nat.le_refl _
            · omega
          have := thinned1_any h hle x y hx hy hW hH
          rw [← roundTo_succ] at this
          exact this) R.start enters_thinned1)
      clear R k7
      go_wp2_with fail
      refine EA.out.mono ?_
      rintro e' w3 ⟨rfl, hI3⟩
      obtain ⟨ag, h8, _, _⟩ := hI3.b8
      have k8 := h8.cell 0
      simp at k8
      have NX := Lib.hid (hI3.next h8)
      clear hI3 h8 EA k7'
      go_wp2_with fail
      refine ⟨⟨_, n + 1, ag, rfl, NX.out.1⟩, ?_⟩
      have q8 := NX.out.1.b8.cell 0
      rw [hm, measT_of NX.out.1.img (b := ag) (by rw [q8]; rfl)]
      exact NX.out.2
end Go.Proofs.YtdhajndmebnknaaGreat
